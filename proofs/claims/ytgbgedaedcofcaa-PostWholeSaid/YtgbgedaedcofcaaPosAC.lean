/-
  pos: keys, what a map of positions holds; Get, Part.
  pos: Add, Part, New.
  pos: Part; name.Compare, Before.
-/
import Derived.Test.YtgbgedaedcofcaaMapAB
import Derived.Test.YtgbgedaedcofcaaFork
import Derived.Test.YtgbgedaedcofcaaProg
import Derived.Test.YtgbgedaedcofcaaShape
namespace Go.Proofs.Ytgbgedaedcofcaa
section
open Go Go.RowKit
attribute [local irreducible] run goO leaveK someK nextK nextT nextOT nextOD loopBody loopRest loopK fillJ tmplOf tmplJ mergeT At AtO drawOk ordOf gateOf callC callO topOp topO idxOf appOf storeOf clearOf sliceOf calleeOf calleeO topQ idxQ newRowOf resL stepOp seek

abbrev Key := ByteArray × ByteArray
def encK (k : Key) : Value := .agg #[.string k.1, .string k.2]
abbrev B3 := Int × Int × Int
def encB (b : B3) : Value := .agg #[.int .i64 b.1, .int .i64 b.2.1, .int .i64 b.2.2]
theorem ba_dec (a b : ByteArray) : (a == b) = decide (a = b) := by
  cases h : (a == b) with
  | true =>
    symm
    rw [decide_eq_true_iff]
    have h2 : (a.data == b.data) = true := h
    have h3 := eq_of_beq h2
    cases a; cases b; simp_all
  | false =>
    symm
    rw [decide_eq_false_iff_not]
    rintro rfl
    have : (a == a) = true := by
      obtain ⟨d⟩ := a
      show (d == d) = true
      simp
    rw [this] at h
    cases h
theorem key_eqIn (a b : Key) : eqIn Try.prog Op.maxDepth 24 (encK a) (encK b) = some (a.1 == b.1 && (a.2 == b.2 && true)) := by kernel_rfl
theorem kt_key : KT Try.prog 24 encK := by
  refine ⟨fun a b w => ?_, fun d hd a b x h => ?_, ⟨_, Try.underlying24⟩, fun b a w => by kernel_rfl, fun a => ?_⟩
  · have h := eqIn_run _ _ _ _ _ w (key_eqIn a b)
    have e : (a.1 == b.1 && (a.2 == b.2 && true)) = decide (a = b) := by
      rw [ba_dec, ba_dec, Bool.and_true]
      obtain ⟨a1, a2⟩ := a
      obtain ⟨b1, b2⟩ := b
      simp only [Prod.mk.injEq, Bool.decide_and]
    rw [e] at h
    exact h
  · simp [Instr.sameNow, encK] at h
  · unfold encK
    simp [Instr.sameBits, ba_dec]
theorem mp_ty : Try.prog.underlying 72 = some (.map 24 76) := Try.underlying72
theorem zero_b3 (w : World) : (zeroValue 76).run Try.prog w = .ok (encB (0, 0, 0)) w := by kernel_rfl

abbrev getM (l : List (Ent Key B3)) (k : Key) : B3 := (look k l).getD (0, 0, 0)
theorem isPart_any (sub : Int) (w : World) : Calls Try.prog 36 #[.int .i64 sub] w fun e w' => e = .returned (.bool (decide (0 ≤ sub) && decide (sub < 3))) ∧ Below w.heap.size w w' := by
  refine sim_enter Try.func36 ρ0 [LI sub] [] (by kernel_rfl) rfl ?_
  have hR := Rel.start [] w ρ0
  refine sim_run 9 [] (hR.cast (by kernel_rfl)) (by kernel_rfl) trivial (fun ρ100 w100 hm100 hR100 => ?_)
  refine sim_fork 5 (decide (sub ≥ 0)) (by kernel_rfl) (fun hq101 => ?_) (fun hq101 => ?_)
  have hq101 := of_decide_eq_true hq101
  refine sim_run 5 [] (hR100.cast (by kernel_rfl)) (by kernel_rfl) trivial (fun ρ102 w102 hm102 hR102 => ?_)
  refine sim_ret (LB (decide (sub < 3))) hR102 (by kernel_rfl) (by kernel_rfl) ?_
  exact ⟨retv_bool (by clear hR102 hm102 hR100 hm100 hR; grind []), hR102.toBelow⟩
  have hq101 := of_decide_eq_false hq101
  refine sim_run 5 [] (hR100.cast (by kernel_rfl)) (by kernel_rfl) trivial (fun ρ103 w103 hm103 hR103 => ?_)
  refine sim_ret (LB false) hR103 (by kernel_rfl) (by kernel_rfl) ?_
  exact ⟨retv_bool (by clear hR103 hm103 hR100 hm100 hR; grind []), hR103.toBelow⟩
  
set_option maxRecDepth 100000 in
theorem get_any (g : Nat) (m : Option Nat) (l : List (Ent Key B3)) (clock : Nat) (k : Key) (w : World) (hb : Blk w g 74 #[.map m]) (hM : MpO encK encB ρ0 [] w m l clock) :
    Calls Try.prog 17 #[.pointer (some ⟨g, 0, none⟩), .agg #[.string k.1, .string k.2]] w fun e w' => e = .returned (encB (getM l k)) ∧ Below w.heap.size w w' := by
  have hg : w.cell? ⟨g, 0, none⟩ = some (.map m) := hb.cell 0
  obtain ⟨ρ, _, e0, hR⟩ := (Rel.start [] w ρ0).open_ rfl g 0 [.v (.map m)] rfl false (World.block_lt_of_cell? _ _ hg) (fun j v hv => by
    match j, hv with
    | 0, hv => injection hv with hv; rw [← hv]; exact hg) (fun h => by cases h) (fun n r hn => by simp at hn)
  have e0 : ρ 0 = (g, 0) := e0
  refine sim_enter Try.func17 ρ [.ptr 0 0, .agg [LS k.1, LS k.2]] [⟨[.v (.map m)], false⟩] (by kernel_rfl) (by simp only [denL, LV.den, Nm.at_, e0]) ?_
  have hR := hR.cast rfl
  have hag := hR.ag_ 1 (by kernel_rfl)
  obtain ⟨a, b, c, hv⟩ : ∃ a b c, getM l k = (a, b, c) := ⟨_, _, _, rfl⟩
  rw [hv]
  have hM : MpO encK encB ρ [⟨[.v (.map m)], false⟩] w m l clock := ⟨fun g' hg' => ⟨(hM.is g' hg').1, fun hw => by
    obtain ⟨n, r, hn, hr, _⟩ := hw
    match n, hn with
    | 0, hn => injection hn with hn; rw [← hn] at hr; cases hr⟩, hM.nil⟩
  refine sim_run 14 [] (hR.cast (by kernel_rfl)) (by kernel_rfl) trivial (fun ρ200 w200 hm200 hR200 => ?_)
  have hag := hag.moved (hm200.castL (by kernel_rfl))
  have hM := hM.moved (hm200.castL (by kernel_rfl))
  refine sim_drawF2 [(0, false), (1, false), (2, false), (3, false), (4, false)] (5, [(6, true), (7, true)]) (6, [(5, true), (7, true)]) (some 7) (by kernel_rfl) (by kernel_rfl) hR200 (fun hR201 => ?_) (fun hR201 => ?_)
  have hM := hM.drew
  refine sim_ordN 5 [] hR201 (by kernel_rfl) trivial (fun ρ202 w202 hm202 hR202 => ?_)
  have hag := hag.moved (hm202.castL (by kernel_rfl))
  have hM := hM.moved (hm202.castL (by kernel_rfl))
  refine sim_ord_look (enc := encK) (encV := encB) (mx := .v (Value.map m)) (kx := .agg [LS k.fst, LS k.snd]) (ok := false) k (.agg [LI a, LI b, LI c]) (by kernel_rfl) mp_ty kt_key zero_b3 hM rfl rfl hR202 (by rw [show (look k l).getD (0, 0, 0) = (a, b, c) from hv]; rfl) (fun hR203 => ?_)
  refine sim_ordN 2 [] hR203 (by kernel_rfl) trivial (fun ρ204 w204 hm204 hR204 => ?_)
  have hag := hag.moved (hm204.castL (by kernel_rfl))
  have hM := hM.moved (hm204.castL (by kernel_rfl))
  refine sim_ord_endR hR204 (by kernel_rfl) (fun hR205 => ?_)
  refine sim_run 11 [] hR205 (by kernel_rfl) trivial (fun ρ206 w206 hm206 hR206 => ?_)
  have hag := hag.moved (hm206.castL (by kernel_rfl))
  have hM := hM.moved (hm206.castL (by kernel_rfl))
  refine sim_ret (.agg [LI a, LI b, LI c]) hR206 (by kernel_rfl) (by kernel_rfl) ?_
  exact ⟨rfl, hR206.toBelow⟩
  have hM := hM.drew
  refine sim_ordN 6 [] hR201 (by kernel_rfl) trivial (fun ρ207 w207 hm207 hR207 => ?_)
  have hag := hag.moved (hm207.castL (by kernel_rfl))
  have hM := hM.moved (hm207.castL (by kernel_rfl))
  refine sim_ord_look (enc := encK) (encV := encB) (mx := .v (Value.map m)) (kx := .agg [LS k.fst, LS k.snd]) (ok := false) k (.agg [LI a, LI b, LI c]) (by kernel_rfl) mp_ty kt_key zero_b3 hM rfl rfl hR207 (by rw [show (look k l).getD (0, 0, 0) = (a, b, c) from hv]; rfl) (fun hR208 => ?_)
  refine sim_ordN 1 [] hR208 (by kernel_rfl) trivial (fun ρ209 w209 hm209 hR209 => ?_)
  have hag := hag.moved (hm209.castL (by kernel_rfl))
  have hM := hM.moved (hm209.castL (by kernel_rfl))
  refine sim_ord_endR hR209 (by kernel_rfl) (fun hR210 => ?_)
  refine sim_run 11 [] hR210 (by kernel_rfl) trivial (fun ρ211 w211 hm211 hR211 => ?_)
  have hag := hag.moved (hm211.castL (by kernel_rfl))
  have hM := hM.moved (hm211.castL (by kernel_rfl))
  refine sim_ret (.agg [LI a, LI b, LI c]) hR211 (by kernel_rfl) (by kernel_rfl) ?_
  exact ⟨rfl, hR211.toBelow⟩
  
end

section
open Go Go.RowKit
attribute [local irreducible] run goO leaveK someK nextK nextT nextOT nextOD loopBody loopRest loopK fillJ tmplOf tmplJ mergeT At AtO drawOk ordOf gateOf callC callO topOp topO idxOf appOf storeOf clearOf sliceOf calleeOf calleeO topQ idxQ newRowOf resL stepOp seek

def partB (b : B3) (sub : Int) : Int := if sub = 0 then b.1 else if sub = 1 then b.2.1 else b.2.2
def setB (b : B3) (sub v : Int) : B3 := if sub = 0 then (v, b.2.1, b.2.2) else if sub = 1 then (b.1, v, b.2.2) else (b.1, b.2.1, v)
/-- what Add answers -/
def addC (b : B3) (sub by' : Int) : Int := if (0 ≤ sub ∧ sub < 3) ∧ (-1152921504606846976 ≤ by' ∧ by' ≤ 1152921504606846976) then (if partB b sub + by' < 0 then 30 else if 1152921504606846976 < partB b sub + by' then 12 else 0) else 1
def addL (clock : Nat) (l : List (Ent Key B3)) (k : Key) (sub by' : Int) : List (Ent Key B3) :=
  if addC (getM l k) sub by' = 0 then (if setB (getM l k) sub (partB (getM l k) sub + by') = (0, 0, 0) then del k l else ins k (setB (getM l k) sub (partB (getM l k) sub + by')) clock l) else l
structure okB (b : B3) : Prop where
  fa : 0 ≤ b.1 ∧ b.1 ≤ 1152921504606846976
  fb : 0 ≤ b.2.1 ∧ b.2.1 ≤ 1152921504606846976
  fc : 0 ≤ b.2.2 ∧ b.2.2 ≤ 1152921504606846976
theorem look_mem {K V : Type} [DecidableEq K] {k : K} {v : V} : ∀ {l : List (Ent K V)}, look k l = some v → ∃ e ∈ l, e.key = k ∧ e.val = v
  | [], h => by cases h
  | e :: l, h => by
    simp only [look] at h
    split at h
    · rename_i hk
      injection h with h
      exact ⟨e, by simp, hk.symm, h⟩
    · obtain ⟨e', h1, h2⟩ := look_mem h
      exact ⟨e', List.mem_cons_of_mem _ h1, h2⟩
theorem getM_ok {l : List (Ent Key B3)} (h : ∀ e ∈ l, okB e.val) (k : Key) : okB (getM l k) := by
  unfold getM
  cases hk : look k l with
  | none => exact ⟨by decide, by decide, by decide⟩
  | some v =>
    obtain ⟨e, he, _, rfl⟩ := look_mem hk
    exact h e he
/-- what a method leaves -/
def PoQ (w : World) (g : Nat) (m : Option Nat) (l' : List (Ent Key B3)) (V : Value) (e : Ending) (w' : World) : Prop :=
  ∃ m' clock', e = .returned V ∧ Blk w' g 74 #[.map m'] ∧ MpO encK encB ρ0 [] w' m' l' clock' ∧ Kept (fun x => x = g ∨ m = some x) w w' ∧ (m' = m ∨ ∃ x, w.heap.size ≤ x ∧ m' = some x)
theorem MpO.bare {ρ : Nm} {rs : List Reg} {w : World} {m : Option Nat} {l : List (Ent Key B3)} {clock : Nat} (h : MpO encK encB ρ rs w m l clock) : MpO encK encB ρ0 [] w m l clock := ⟨fun g hg => ⟨(h.is g hg).1, fun hw => by obtain ⟨n, r, hn, _⟩ := hw; simp at hn⟩, h.nil⟩
theorem MpO.over {w : World} {m : Option Nat} {l : List (Ent Key B3)} {clock g : Nat} {t : TypeId} {a : Array Value} (h : MpO encK encB ρ0 [] w m l clock) (hb : Blk w g t a) {ρ : Nm} {r : Reg} (e0 : ρ 0 = (g, 0)) : MpO encK encB ρ [r] w m l clock := ⟨fun g' hg' => ⟨(h.is g' hg').1, fun hw => by
    obtain ⟨n, r', hn, _, he⟩ := hw
    match n, hn with
    | 0, _ =>
      rw [e0] at he
      have he' : g = g' := he
      subst he'
      have h1 := (h.is g hg').1.blk
      rw [hb] at h1
      cases h1⟩, h.nil⟩
theorem pos_open (T : List Nat) {w : World} {g : Nat} {m : Option Nat} (hT : g ∈ T) (hb : Blk w g 74 #[.map m]) : ∃ ρ : Nm, ρ 0 = (g, 0) ∧ Rel T w ρ [⟨[.v (.map m)], true⟩] w := by
  have hg : w.cell? ⟨g, 0, none⟩ = some (.map m) := hb.cell 0
  obtain ⟨ρ, _, e0, hR⟩ := (Rel.start T w ρ0).open_ rfl g 0 [.v (.map m)] rfl true (World.block_lt_of_cell? _ _ hg) (fun j v hv => by
    match j, hv with
    | 0, hv => injection hv with hv; rw [← hv]; exact hg) (fun _ => ⟨.inl hT, fun i _ => by rw [Nat.zero_add]; exact hb.frozen i⟩) (fun n r hn => by simp at hn)
  exact ⟨ρ, e0, hR.cast rfl⟩
abbrev tyMP : TypeId := 72
theorem poq_of {w0 w' : World} {ρ ρb : Nm} {rs : List Reg} {g : Nat} {m mq : Option Nat} {l : List (Ent Key B3)} {clock : Nat} {V : Value} (hR : Rel (g :: m.toList) w0 ρ rs w') (hag : Ag 1 ρb ρ rs) (e0 : ρb 0 = (g, 0)) (hn : rs[0]? = some ⟨[.v (.map mq)], true⟩) (hbox : RowV ρ rs w' g 74 [.map mq])
    (hM : MpO encK encB ρ rs w' mq l clock) (hq : mq = m ∨ ∃ x, w0.heap.size ≤ x ∧ mq = some x) : PoQ w0 g m l V (.returned V) w' :=
  ⟨mq, clock, rfl, hbox.full hR hag hn e0 rfl, hM.bare, hR.keeps.kept.mono (fun x hx => .inl (by simpa using hx)), hq⟩
theorem RowV.swap1 {ρ ρb : Nm} {rs : List Reg} {w : World} {g : Nat} {t : TypeId} {u : Value} (h : RowV ρ rs w g t [u]) {x : LV} (hag : Ag 1 ρb ρ rs) (e0 : ρb 0 = (g, 0)) (hn : rs[0]? = some ⟨[x], true⟩) (u' : Value) : RowV ρ rs w g t [u'] := by
  obtain ⟨arr, h1, h2, h3⟩ := h.is
  refine ⟨arr, h1, h2, fun i hi => ?_⟩
  rw [h3 i hi]
  have e1 : ρ 0 = (g, 0) := (hag.at_ 0 (by omega)).trans e0
  rcases hi 0 _ hn rfl (by rw [e1]) with h4 | h4
  · rw [e1] at h4; cases h4
  · rw [e1] at h4
    simp only [List.length_cons, List.length_nil] at h4
    rw [List.getElem?_eq_none (by simp; omega), List.getElem?_eq_none (by simp; omega)]
abbrev rsA (q : Option Nat) (k : Key) (x : B3) : List Reg := [⟨[.v (.map q)], true⟩, ⟨[LS k.1, LS k.2], true⟩, ⟨[LI x.1, LI x.2.1, LI x.2.2], true⟩]
theorem zero3 (x1 x2 x3 : Int) : (x1 == 0 && (x2 == 0 && (x3 == 0 && true))) = decide ((x1, x2, x3) = ((0, 0, 0) : B3)) := by
  simp only [Prod.mk.injEq, Bool.decide_and, Bool.and_true]
  rfl
set_option maxRecDepth 100000 in
set_option maxHeartbeats 4000000 in
/-- Add, behind the map's making -/
theorem add_tail (g q : Nat) (m : Option Nat) (k : Key) (x : B3) (l l' : List (Ent Key B3)) (clock : Nat) (w0 w : World) (ρ ρb : Nm) (d : Nat → Value) (hq : m = some q ∨ w0.heap.size ≤ q) (hR : Rel (g :: m.toList) w0 ρ (rsA (some q) k x) w) (hag : Ag 1 ρb ρ (rsA (some q) k x)) (e0 : ρb 0 = (g, 0))
    (hM : MpO encK encB ρ (rsA (some q) k x) w (some q) l clock) (hbox : RowV ρ (rsA (some q) k x) w g 74 [.map (some q)]) (hl : l' = if x = (0, 0, 0) then del k l else ins k x clock l) :
    At Try.prog (bodyPost Try.prog Try.f16 (PoQ w0 g m l' (.int .i64 0))) ⟨regK Try.f16 11, fillJ (tmplJ Try.f16.ntmps 0 [(0, .ptr 0 0), (5, .ptr 1 0), (9, .ptr 2 0)]) d 0, rsA (some q) k x⟩ ρ w := by
  obtain ⟨x1, x2, x3⟩ := x
  have hqT : q ∈ g :: m.toList ∨ w0.heap.size ≤ q := hq.imp (fun h => by rw [h]; simp) id
  have hqq : some q = m ∨ ∃ x, w0.heap.size ≤ x ∧ some q = some x := hq.imp (fun h => h.symm) (fun h => ⟨q, h, rfl⟩)
  subst hl
  refine sim_run 4 [] hR (by kernel_rfl) trivial (fun ρ100 w100 hm100 hR100 => ?_)
  have hag := hag.moved (hm100.castL (by kernel_rfl))
  have hM := hM.moved (hm100.castL (by kernel_rfl))
  have hbox := hbox.moved (hm100.castL (by kernel_rfl))
  refine sim_fork 58 ((x1, x2, x3).fst == 0 && ((x1, x2, x3).snd.fst == 0 && ((x1, x2, x3).snd.snd == 0 && true))) (by kernel_rfl) (fun hq101 => ?_) (fun hq101 => ?_)
  refine sim_run 2 [] (hR100.cast (by kernel_rfl)) (by kernel_rfl) trivial (fun ρ102 w102 hm102 hR102 => ?_)
  have hag := hag.moved (hm102.castL (by kernel_rfl))
  have hM := hM.moved (hm102.castL (by kernel_rfl))
  have hbox := hbox.moved (hm102.castL (by kernel_rfl))
  refine sim_draw [] (by kernel_rfl) (by kernel_rfl) hR102 (fun hR103 => ?_)
  have hM := hM.drew
  have hbox := hbox.drew
  refine sim_ordN 5 [] hR103 (by kernel_rfl) trivial (fun ρ104 w104 hm104 hR104 => ?_)
  have hag := hag.moved (hm104.castL (by kernel_rfl))
  have hM := hM.moved (hm104.castL (by kernel_rfl))
  have hbox := hbox.moved (hm104.castL (by kernel_rfl))
  refine sim_ord_del (enc := encK) (encV := encB) (mx := .v (Value.map (some q))) (kx := .agg [LS k.fst, LS k.snd]) k (by kernel_rfl) rfl mp_ty kt_key hM rfl rfl hqT hR104 (fun w105 ht105 hM2 hR105 => ?_)
  have hbox := hbox.turnM ht105
  have hM := hM2
  clear hM2
  refine sim_ord_endR hR105 (by kernel_rfl) (fun hR106 => ?_)
  refine sim_run 4 [] hR106 (by kernel_rfl) trivial (fun ρ107 w107 hm107 hR107 => ?_)
  have hag := hag.moved (hm107.castL (by kernel_rfl))
  have hbox := hbox.moved (hm107.castL (by kernel_rfl))
  have hM := hM.moved (hm107.castL (by kernel_rfl))
  refine sim_ret (LI 0) hR107 (by kernel_rfl) (by kernel_rfl) ?_
  rotate_left
  refine sim_run 3 [] (hR100.cast (by kernel_rfl)) (by kernel_rfl) trivial (fun ρ108 w108 hm108 hR108 => ?_)
  have hag := hag.moved (hm108.castL (by kernel_rfl))
  have hM := hM.moved (hm108.castL (by kernel_rfl))
  have hbox := hbox.moved (hm108.castL (by kernel_rfl))
  refine sim_draw [] (by kernel_rfl) (by kernel_rfl) hR108 (fun hR109 => ?_)
  have hM := hM.drew
  have hbox := hbox.drew
  refine sim_ordN 6 [] hR109 (by kernel_rfl) trivial (fun ρ110 w110 hm110 hR110 => ?_)
  have hag := hag.moved (hm110.castL (by kernel_rfl))
  have hM := hM.moved (hm110.castL (by kernel_rfl))
  have hbox := hbox.moved (hm110.castL (by kernel_rfl))
  refine sim_ord_upd (enc := encK) (encV := encB) (mx := .v (Value.map (some q))) (kx := .agg [LS k.fst, LS k.snd]) (vx := .agg [LI ((x1, x2, x3).fst), LI ((x1, x2, x3).snd.fst), LI ((x1, x2, x3).snd.snd)]) k (x1, x2, x3) (by kernel_rfl) mp_ty kt_key hM rfl rfl rfl hqT hR110 (fun w111 ht111 hM2 hR111 => ?_)
  have hbox := hbox.turnM ht111
  have hM := hM2
  clear hM2
  refine sim_ord_endR hR111 (by kernel_rfl) (fun hR112 => ?_)
  refine sim_run 4 [] hR112 (by kernel_rfl) trivial (fun ρ113 w113 hm113 hR113 => ?_)
  have hag := hag.moved (hm113.castL (by kernel_rfl))
  have hbox := hbox.moved (hm113.castL (by kernel_rfl))
  have hM := hM.moved (hm113.castL (by kernel_rfl))
  refine sim_ret (LI 0) hR113 (by kernel_rfl) (by kernel_rfl) ?_
  rotate_left
  
  · rw [zero3] at hq101
    rw [if_pos (of_decide_eq_true hq101)]
    exact poq_of (by assumption : Rel _ _ _ _ _) hag e0 (by kernel_rfl) hbox hM hqq
  · rw [zero3] at hq101
    rw [if_neg (of_decide_eq_false hq101)]
    exact poq_of (by assumption : Rel _ _ _ _ _) hag e0 (by kernel_rfl) hbox hM hqq
set_option maxRecDepth 100000 in
set_option maxHeartbeats 4000000 in
/-- Add, behind its tests -/
theorem add_mid (g : Nat) (m : Option Nat) (k : Key) (x : B3) (l l' : List (Ent Key B3)) (clock : Nat) (w0 w : World) (ρ ρb : Nm) (d : Nat → Value) (hR : Rel (g :: m.toList) w0 ρ (rsA m k x) w) (hag : Ag 1 ρb ρ (rsA m k x)) (e0 : ρb 0 = (g, 0))
    (hM : MpO encK encB ρ (rsA m k x) w m l clock) (hbox : RowV ρ (rsA m k x) w g 74 [.map m]) (hl : l' = if x = (0, 0, 0) then del k l else ins k x clock l) :
    At Try.prog (bodyPost Try.prog Try.f16 (PoQ w0 g m l' (.int .i64 0))) ⟨regK Try.f16 9, fillJ (tmplJ Try.f16.ntmps 0 [(0, .ptr 0 0), (5, .ptr 1 0), (9, .ptr 2 0)]) d 0, rsA m k x⟩ ρ w := by
  cases m with
  | none =>
    obtain ⟨h1, h2⟩ := hM.nil rfl
    subst h1
    subst h2
    refine sim_run 9 [] hR (by kernel_rfl) trivial (fun ρ200 w200 hm200 hR200 => ?_)
    have hag := hag.moved (hm200.castL (by kernel_rfl))
    have hbox := hbox.moved (hm200.castL (by kernel_rfl))
    have hM := hM.moved (hm200.castL (by kernel_rfl))
    refine sim_make encK encB (t := tyMP) (by kernel_rfl) hR200 (fun w201 q eq hb201 hM2 hR201 => ?_)
    have hq : w0.heap.size ≤ q := by rw [eq]; exact (hR200).keeps.size
    have hbox := hbox.below hb201
    have hM := hM.below hb201
    have hM := hM2
    clear hM2
    refine sim_run 7 [] (hR201.cast (by kernel_rfl)) (by kernel_rfl) trivial (fun ρ202 w202 hm202 hR202 => ?_)
    have hag := hag.moved (hm202.castL (by kernel_rfl))
    have hbox := hbox.moved (hm202.castL (by kernel_rfl))
    have hM := hM.moved (hm202.castL (by kernel_rfl))
    
    refine sim_to (regK Try.f16 11) (tmplJ Try.f16.ntmps 0 [(0, .ptr 0 0), (5, .ptr 1 0), (9, .ptr 2 0)]) (rsA (some q) k x) (by kernel_rfl) (by kernel_rfl) (by kernel_rfl) (fun d => ?_)
    have hag := hag.castR (rs' := rsA (some q) k x) (by kernel_rfl)
    exact add_tail g q none k x [] l' 0 w0 _ _ ρb d (.inr hq) (Rel.cast (by assumption) (by kernel_rfl)) hag e0 (hM.castR (by kernel_rfl)) ((hbox.castR (rs' := rsA (some q) k x) (by kernel_rfl)).swap1 hag e0 rfl _) hl
  | some q =>
    refine sim_run 11 [] hR (by kernel_rfl) trivial (fun ρ300 w300 hm300 hR300 => ?_)
    have hag := hag.moved (hm300.castL (by kernel_rfl))
    have hM := hM.moved (hm300.castL (by kernel_rfl))
    have hbox := hbox.moved (hm300.castL (by kernel_rfl))
    
    refine sim_to (regK Try.f16 11) (tmplJ Try.f16.ntmps 0 [(0, .ptr 0 0), (5, .ptr 1 0), (9, .ptr 2 0)]) (rsA (some q) k x) (by kernel_rfl) (by kernel_rfl) (by kernel_rfl) (fun d => ?_)
    exact add_tail g q (some q) k x l l' clock w0 _ _ ρb d (.inl rfl) (Rel.cast (by assumption) (by kernel_rfl)) (hag.castR (by kernel_rfl)) e0 (hM.castR (by kernel_rfl)) (hbox.castR (by kernel_rfl)) hl
set_option maxRecDepth 100000 in
set_option maxHeartbeats 4000000 in
/-- Add, behind the look -/
theorem add_test (g : Nat) (m : Option Nat) (k : Key) (b : B3) (sub by' : Int) (l : List (Ent Key B3)) (clock : Nat) (w0 w : World) (ρ ρb : Nm) (d : Nat → Value) (hs : 0 ≤ sub ∧ sub < 3) (hy : -1152921504606846976 ≤ by' ∧ by' ≤ 1152921504606846976) (hv : getM l k = b) (hok : okB b) (hR : Rel (g :: m.toList) w0 ρ (rsA m k b) w) (hag : Ag 1 ρb ρ (rsA m k b)) (e0 : ρb 0 = (g, 0))
    (hM : MpO encK encB ρ (rsA m k b) w m l clock) (hbox : RowV ρ (rsA m k b) w g 74 [.map m]) :
    At Try.prog (bodyPost Try.prog Try.f16 (PoQ w0 g m (addL clock l k sub by') (.int .i64 (addC (getM l k) sub by')))) ⟨regK Try.f16 4, fillJ (tmplJ Try.f16.ntmps 0 [(0, .ptr 0 0), (2, LI sub), (3, LI by'), (5, .ptr 1 0), (9, .ptr 2 0)]) d 0, rsA m k b⟩ ρ w := by
  obtain ⟨a1, a2⟩ := hok.fa
  obtain ⟨b1, b2⟩ := hok.fb
  obtain ⟨c1, c2⟩ := hok.fc
  unfold addL
  rw [hv]
  have hc : addC b sub by' = if partB b sub + by' < 0 then 30 else if 1152921504606846976 < partB b sub + by' then 12 else 0 := by unfold addC; rw [if_pos ⟨hs, hy⟩]
  rw [hc]
  have h012 : sub = 0 ∨ sub = 1 ∨ sub = 2 := by omega
  rcases h012 with rfl | rfl | rfl
  · have e1 : partB b 0 = b.1 := rfl
    rw [e1]
    refine sim_run 18 [⟨4, 4, LI (IntKind.i64.wrap (b.fst + by')), LI (b.fst + by')⟩] hR (by kernel_rfl) ⟨eqi (IntWalk.i64_in _ (by omega)), trivial⟩ (fun ρ400 w400 hm400 hR400 => ?_)
    have hag := hag.moved (hm400.castL (by kernel_rfl))
    have hM := hM.moved (hm400.castL (by kernel_rfl))
    have hbox := hbox.moved (hm400.castL (by kernel_rfl))
    refine sim_fork 37 (decide (b.fst + by' < 0)) (by kernel_rfl) (fun hq401 => ?_) (fun hq401 => ?_)
    have hq401 := of_decide_eq_true hq401
    refine sim_run 5 [] (hR400.cast (by kernel_rfl)) (by kernel_rfl) trivial (fun ρ402 w402 hm402 hR402 => ?_)
    have hag := hag.moved (hm402.castL (by kernel_rfl))
    have hM := hM.moved (hm402.castL (by kernel_rfl))
    have hbox := hbox.moved (hm402.castL (by kernel_rfl))
    refine sim_ret (LI 30) hR402 (by kernel_rfl) (by kernel_rfl) ?_
    rotate_left
    have hq401 := of_decide_eq_false hq401
    refine sim_run 9 [] (hR400.cast (by kernel_rfl)) (by kernel_rfl) trivial (fun ρ403 w403 hm403 hR403 => ?_)
    have hag := hag.moved (hm403.castL (by kernel_rfl))
    have hM := hM.moved (hm403.castL (by kernel_rfl))
    have hbox := hbox.moved (hm403.castL (by kernel_rfl))
    refine sim_fork 42 (decide (b.fst + by' > 1152921504606846976)) (by kernel_rfl) (fun hq404 => ?_) (fun hq404 => ?_)
    have hq404 := of_decide_eq_true hq404
    refine sim_run 5 [] (hR403.cast (by kernel_rfl)) (by kernel_rfl) trivial (fun ρ405 w405 hm405 hR405 => ?_)
    have hag := hag.moved (hm405.castL (by kernel_rfl))
    have hM := hM.moved (hm405.castL (by kernel_rfl))
    have hbox := hbox.moved (hm405.castL (by kernel_rfl))
    refine sim_ret (LI 12) hR405 (by kernel_rfl) (by kernel_rfl) ?_
    rotate_left
    have hq404 := of_decide_eq_false hq404
    refine sim_run 6 [] (hR403.cast (by kernel_rfl)) (by kernel_rfl) trivial (fun ρ406 w406 hm406 hR406 => ?_)
    have hag := hag.moved (hm406.castL (by kernel_rfl))
    have hM := hM.moved (hm406.castL (by kernel_rfl))
    have hbox := hbox.moved (hm406.castL (by kernel_rfl))
    rotate_left
    
    · rw [if_pos hq401, if_neg (by decide)]
      exact poq_of (by assumption : Rel _ _ _ _ _) hag e0 (by kernel_rfl) hbox hM (.inl rfl)
    · rw [if_neg hq401, if_pos hq404, if_neg (by decide)]
      exact poq_of (by assumption : Rel _ _ _ _ _) hag e0 (by kernel_rfl) hbox hM (.inl rfl)
    · rw [if_neg hq401, if_neg hq404, if_pos rfl]
      refine sim_to (regK Try.f16 9) (tmplJ Try.f16.ntmps 0 [(0, .ptr 0 0), (5, .ptr 1 0), (9, .ptr 2 0)]) (rsA m k (setB b 0 (b.1 + by'))) (by kernel_rfl) (by kernel_rfl) (by kernel_rfl) (fun d => ?_)
      exact add_mid g m k (setB b 0 (b.1 + by')) l _ clock w0 _ _ ρb d (Rel.cast (by assumption) (by kernel_rfl)) (hag.castR (by kernel_rfl)) e0 (hM.castR (by kernel_rfl)) (hbox.castR (by kernel_rfl)) rfl
  · have e1 : partB b 1 = b.2.1 := rfl
    rw [e1]
    refine sim_run 18 [⟨4, 4, LI (IntKind.i64.wrap (b.snd.fst + by')), LI (b.snd.fst + by')⟩] hR (by kernel_rfl) ⟨eqi (IntWalk.i64_in _ (by omega)), trivial⟩ (fun ρ500 w500 hm500 hR500 => ?_)
    have hag := hag.moved (hm500.castL (by kernel_rfl))
    have hM := hM.moved (hm500.castL (by kernel_rfl))
    have hbox := hbox.moved (hm500.castL (by kernel_rfl))
    refine sim_fork 37 (decide (b.snd.fst + by' < 0)) (by kernel_rfl) (fun hq501 => ?_) (fun hq501 => ?_)
    have hq501 := of_decide_eq_true hq501
    refine sim_run 5 [] (hR500.cast (by kernel_rfl)) (by kernel_rfl) trivial (fun ρ502 w502 hm502 hR502 => ?_)
    have hag := hag.moved (hm502.castL (by kernel_rfl))
    have hM := hM.moved (hm502.castL (by kernel_rfl))
    have hbox := hbox.moved (hm502.castL (by kernel_rfl))
    refine sim_ret (LI 30) hR502 (by kernel_rfl) (by kernel_rfl) ?_
    rotate_left
    have hq501 := of_decide_eq_false hq501
    refine sim_run 9 [] (hR500.cast (by kernel_rfl)) (by kernel_rfl) trivial (fun ρ503 w503 hm503 hR503 => ?_)
    have hag := hag.moved (hm503.castL (by kernel_rfl))
    have hM := hM.moved (hm503.castL (by kernel_rfl))
    have hbox := hbox.moved (hm503.castL (by kernel_rfl))
    refine sim_fork 42 (decide (b.snd.fst + by' > 1152921504606846976)) (by kernel_rfl) (fun hq504 => ?_) (fun hq504 => ?_)
    have hq504 := of_decide_eq_true hq504
    refine sim_run 5 [] (hR503.cast (by kernel_rfl)) (by kernel_rfl) trivial (fun ρ505 w505 hm505 hR505 => ?_)
    have hag := hag.moved (hm505.castL (by kernel_rfl))
    have hM := hM.moved (hm505.castL (by kernel_rfl))
    have hbox := hbox.moved (hm505.castL (by kernel_rfl))
    refine sim_ret (LI 12) hR505 (by kernel_rfl) (by kernel_rfl) ?_
    rotate_left
    have hq504 := of_decide_eq_false hq504
    refine sim_run 6 [] (hR503.cast (by kernel_rfl)) (by kernel_rfl) trivial (fun ρ506 w506 hm506 hR506 => ?_)
    have hag := hag.moved (hm506.castL (by kernel_rfl))
    have hM := hM.moved (hm506.castL (by kernel_rfl))
    have hbox := hbox.moved (hm506.castL (by kernel_rfl))
    rotate_left
    
    · rw [if_pos hq501, if_neg (by decide)]
      exact poq_of (by assumption : Rel _ _ _ _ _) hag e0 (by kernel_rfl) hbox hM (.inl rfl)
    · rw [if_neg hq501, if_pos hq504, if_neg (by decide)]
      exact poq_of (by assumption : Rel _ _ _ _ _) hag e0 (by kernel_rfl) hbox hM (.inl rfl)
    · rw [if_neg hq501, if_neg hq504, if_pos rfl]
      refine sim_to (regK Try.f16 9) (tmplJ Try.f16.ntmps 0 [(0, .ptr 0 0), (5, .ptr 1 0), (9, .ptr 2 0)]) (rsA m k (setB b 1 (b.2.1 + by'))) (by kernel_rfl) (by kernel_rfl) (by kernel_rfl) (fun d => ?_)
      exact add_mid g m k (setB b 1 (b.2.1 + by')) l _ clock w0 _ _ ρb d (Rel.cast (by assumption) (by kernel_rfl)) (hag.castR (by kernel_rfl)) e0 (hM.castR (by kernel_rfl)) (hbox.castR (by kernel_rfl)) rfl
  · have e1 : partB b 2 = b.2.2 := rfl
    rw [e1]
    refine sim_run 18 [⟨4, 4, LI (IntKind.i64.wrap (b.snd.snd + by')), LI (b.snd.snd + by')⟩] hR (by kernel_rfl) ⟨eqi (IntWalk.i64_in _ (by omega)), trivial⟩ (fun ρ600 w600 hm600 hR600 => ?_)
    have hag := hag.moved (hm600.castL (by kernel_rfl))
    have hM := hM.moved (hm600.castL (by kernel_rfl))
    have hbox := hbox.moved (hm600.castL (by kernel_rfl))
    refine sim_fork 37 (decide (b.snd.snd + by' < 0)) (by kernel_rfl) (fun hq601 => ?_) (fun hq601 => ?_)
    have hq601 := of_decide_eq_true hq601
    refine sim_run 5 [] (hR600.cast (by kernel_rfl)) (by kernel_rfl) trivial (fun ρ602 w602 hm602 hR602 => ?_)
    have hag := hag.moved (hm602.castL (by kernel_rfl))
    have hM := hM.moved (hm602.castL (by kernel_rfl))
    have hbox := hbox.moved (hm602.castL (by kernel_rfl))
    refine sim_ret (LI 30) hR602 (by kernel_rfl) (by kernel_rfl) ?_
    rotate_left
    have hq601 := of_decide_eq_false hq601
    refine sim_run 9 [] (hR600.cast (by kernel_rfl)) (by kernel_rfl) trivial (fun ρ603 w603 hm603 hR603 => ?_)
    have hag := hag.moved (hm603.castL (by kernel_rfl))
    have hM := hM.moved (hm603.castL (by kernel_rfl))
    have hbox := hbox.moved (hm603.castL (by kernel_rfl))
    refine sim_fork 42 (decide (b.snd.snd + by' > 1152921504606846976)) (by kernel_rfl) (fun hq604 => ?_) (fun hq604 => ?_)
    have hq604 := of_decide_eq_true hq604
    refine sim_run 5 [] (hR603.cast (by kernel_rfl)) (by kernel_rfl) trivial (fun ρ605 w605 hm605 hR605 => ?_)
    have hag := hag.moved (hm605.castL (by kernel_rfl))
    have hM := hM.moved (hm605.castL (by kernel_rfl))
    have hbox := hbox.moved (hm605.castL (by kernel_rfl))
    refine sim_ret (LI 12) hR605 (by kernel_rfl) (by kernel_rfl) ?_
    rotate_left
    have hq604 := of_decide_eq_false hq604
    refine sim_run 6 [] (hR603.cast (by kernel_rfl)) (by kernel_rfl) trivial (fun ρ606 w606 hm606 hR606 => ?_)
    have hag := hag.moved (hm606.castL (by kernel_rfl))
    have hM := hM.moved (hm606.castL (by kernel_rfl))
    have hbox := hbox.moved (hm606.castL (by kernel_rfl))
    rotate_left
    
    · rw [if_pos hq601, if_neg (by decide)]
      exact poq_of (by assumption : Rel _ _ _ _ _) hag e0 (by kernel_rfl) hbox hM (.inl rfl)
    · rw [if_neg hq601, if_pos hq604, if_neg (by decide)]
      exact poq_of (by assumption : Rel _ _ _ _ _) hag e0 (by kernel_rfl) hbox hM (.inl rfl)
    · rw [if_neg hq601, if_neg hq604, if_pos rfl]
      refine sim_to (regK Try.f16 9) (tmplJ Try.f16.ntmps 0 [(0, .ptr 0 0), (5, .ptr 1 0), (9, .ptr 2 0)]) (rsA m k (setB b 2 (b.2.2 + by'))) (by kernel_rfl) (by kernel_rfl) (by kernel_rfl) (fun d => ?_)
      exact add_mid g m k (setB b 2 (b.2.2 + by')) l _ clock w0 _ _ ρb d (Rel.cast (by assumption) (by kernel_rfl)) (hag.castR (by kernel_rfl)) e0 (hM.castR (by kernel_rfl)) (hbox.castR (by kernel_rfl)) rfl
set_option maxRecDepth 100000 in
set_option maxHeartbeats 4000000 in
theorem add_l (g : Nat) (m : Option Nat) (l : List (Ent Key B3)) (clock : Nat) (k : Key) (sub by' : Int) (w : World) (hb : Blk w g 74 #[.map m]) (hM : MpO encK encB ρ0 [] w m l clock) (hok : ∀ e ∈ l, okB e.val) :
    Calls Try.prog 16 #[.pointer (some ⟨g, 0, none⟩), .agg #[.string k.1, .string k.2], .int .i64 sub, .int .i64 by'] w (PoQ w g m (addL clock l k sub by') (.int .i64 (addC (getM l k) sub by'))) := by
  obtain ⟨ρ, e0, hR⟩ := pos_open (g :: m.toList) (by simp) hb
  refine sim_enter Try.func16 ρ [.ptr 0 0, .agg [LS k.1, LS k.2], LI sub, LI by'] [⟨[.v (.map m)], true⟩] (by kernel_rfl) (by simp only [denL, LV.den, Nm.at_, e0]) ?_
  have hag := hR.ag_ 1 (by kernel_rfl)
  have hM := hM.over (ρ := ρ) (r := ⟨[.v (.map m)], true⟩) hb e0
  have hbox : RowV ρ [⟨[.v (.map m)], true⟩] w g 74 [.map m] := .start hb _ _
  obtain ⟨b, hv⟩ : ∃ b, getM l k = b := ⟨_, rfl⟩
  have hvo : okB b := hv ▸ getM_ok hok k
  have hno : ¬((0 ≤ sub ∧ sub < 3) ∧ (-1152921504606846976 ≤ by' ∧ by' ≤ 1152921504606846976)) → addC (getM l k) sub by' = 1 := fun h => by unfold addC; rw [if_neg h]
  refine sim_run 12 [] (hR.cast (by kernel_rfl)) (by kernel_rfl) trivial (fun ρ700 w700 hm700 hR700 => ?_)
  have hag := hag.moved (hm700.castL (by kernel_rfl))
  have hM := hM.moved (hm700.castL (by kernel_rfl))
  have hbox := hbox.moved (hm700.castL (by kernel_rfl))
  refine sim_call 36 [LI sub] (by kernel_rfl) ?_
  refine Calls.mono (isPart_any _ _) ?_
  rintro e701 w701 ⟨rfl, hb701⟩
  have hR701 := hR700.below hb701
  have hM := hM.below hb701
  have hbox := hbox.below hb701
  refine Back.of (LB (decide (0 ≤ sub) && decide (sub < 3))) hR701 rfl ?_
  refine sim_run 3 [] (hR701.cast (by kernel_rfl)) (by kernel_rfl) trivial (fun ρ702 w702 hm702 hR702 => ?_)
  have hag := hag.moved (hm702.castL (by kernel_rfl))
  have hM := hM.moved (hm702.castL (by kernel_rfl))
  have hbox := hbox.moved (hm702.castL (by kernel_rfl))
  refine sim_fork 17 (!(decide (0 ≤ sub) && decide (sub < 3))) (by kernel_rfl) (fun hq703 => ?_) (fun hq703 => ?_)
  have hq703 := nb_t hq703
  refine sim_run 13 [] (hR702.cast (by kernel_rfl)) (by kernel_rfl) trivial (fun ρ704 w704 hm704 hR704 => ?_)
  have hag := hag.moved (hm704.castL (by kernel_rfl))
  have hM := hM.moved (hm704.castL (by kernel_rfl))
  have hbox := hbox.moved (hm704.castL (by kernel_rfl))
  refine sim_ret (LI 1) hR704 (by kernel_rfl) (by kernel_rfl) ?_
  rotate_left
  have hq703 := nb_f hq703
  refine sim_run 4 [] (hR702.cast (by kernel_rfl)) (by kernel_rfl) trivial (fun ρ705 w705 hm705 hR705 => ?_)
  have hag := hag.moved (hm705.castL (by kernel_rfl))
  have hM := hM.moved (hm705.castL (by kernel_rfl))
  have hbox := hbox.moved (hm705.castL (by kernel_rfl))
  refine sim_fork 21 (decide (by' < -1152921504606846976)) (by kernel_rfl) (fun hq706 => ?_) (fun hq706 => ?_)
  have hq706 := of_decide_eq_true hq706
  refine sim_run 9 [] (hR705.cast (by kernel_rfl)) (by kernel_rfl) trivial (fun ρ707 w707 hm707 hR707 => ?_)
  have hag := hag.moved (hm707.castL (by kernel_rfl))
  have hM := hM.moved (hm707.castL (by kernel_rfl))
  have hbox := hbox.moved (hm707.castL (by kernel_rfl))
  refine sim_ret (LI 1) hR707 (by kernel_rfl) (by kernel_rfl) ?_
  rotate_left
  have hq706 := of_decide_eq_false hq706
  refine sim_run 4 [] (hR705.cast (by kernel_rfl)) (by kernel_rfl) trivial (fun ρ708 w708 hm708 hR708 => ?_)
  have hag := hag.moved (hm708.castL (by kernel_rfl))
  have hM := hM.moved (hm708.castL (by kernel_rfl))
  have hbox := hbox.moved (hm708.castL (by kernel_rfl))
  refine sim_fork 24 (decide (by' > 1152921504606846976)) (by kernel_rfl) (fun hq709 => ?_) (fun hq709 => ?_)
  have hq709 := of_decide_eq_true hq709
  refine sim_run 5 [] (hR708.cast (by kernel_rfl)) (by kernel_rfl) trivial (fun ρ710 w710 hm710 hR710 => ?_)
  have hag := hag.moved (hm710.castL (by kernel_rfl))
  have hM := hM.moved (hm710.castL (by kernel_rfl))
  have hbox := hbox.moved (hm710.castL (by kernel_rfl))
  refine sim_ret (LI 1) hR710 (by kernel_rfl) (by kernel_rfl) ?_
  rotate_left
  have hq709 := of_decide_eq_false hq709
  refine sim_run 3 [] (hR708.cast (by kernel_rfl)) (by kernel_rfl) trivial (fun ρ711 w711 hm711 hR711 => ?_)
  have hag := hag.moved (hm711.castL (by kernel_rfl))
  have hM := hM.moved (hm711.castL (by kernel_rfl))
  have hbox := hbox.moved (hm711.castL (by kernel_rfl))
  refine sim_drawF2 [(0, false), (1, false), (2, false), (3, false), (4, false)] (5, [(6, true), (7, true)]) (6, [(5, true), (7, true)]) (some 7) (by kernel_rfl) (by kernel_rfl) hR711 (fun hR712 => ?_) (fun hR712 => ?_)
  have hM := hM.drew
  have hbox := hbox.drew
  refine sim_ordN 5 [] hR712 (by kernel_rfl) trivial (fun ρ713 w713 hm713 hR713 => ?_)
  have hag := hag.moved (hm713.castL (by kernel_rfl))
  have hM := hM.moved (hm713.castL (by kernel_rfl))
  have hbox := hbox.moved (hm713.castL (by kernel_rfl))
  refine sim_ord_look (enc := encK) (encV := encB) (mx := .v (Value.map m)) (kx := .agg [LS k.fst, LS k.snd]) (ok := false) k (.agg [LI b.1, LI b.2.1, LI b.2.2]) (by kernel_rfl) mp_ty kt_key zero_b3 hM rfl rfl hR713 (by rw [show (look k _).getD (0, 0, 0) = b from hv]; rfl) (fun hR714 => ?_)
  refine sim_ordN 2 [] hR714 (by kernel_rfl) trivial (fun ρ715 w715 hm715 hR715 => ?_)
  have hag := hag.moved (hm715.castL (by kernel_rfl))
  have hM := hM.moved (hm715.castL (by kernel_rfl))
  have hbox := hbox.moved (hm715.castL (by kernel_rfl))
  refine sim_ord_endR hR715 (by kernel_rfl) (fun hR716 => ?_)
  refine sim_run 2 [] hR716 (by kernel_rfl) trivial (fun ρ717 w717 hm717 hR717 => ?_)
  have hag := hag.moved (hm717.castL (by kernel_rfl))
  have hM := hM.moved (hm717.castL (by kernel_rfl))
  have hbox := hbox.moved (hm717.castL (by kernel_rfl))
  rotate_left
  have hM := hM.drew
  have hbox := hbox.drew
  refine sim_ordN 6 [] hR712 (by kernel_rfl) trivial (fun ρ718 w718 hm718 hR718 => ?_)
  have hag := hag.moved (hm718.castL (by kernel_rfl))
  have hM := hM.moved (hm718.castL (by kernel_rfl))
  have hbox := hbox.moved (hm718.castL (by kernel_rfl))
  refine sim_ord_look (enc := encK) (encV := encB) (mx := .v (Value.map m)) (kx := .agg [LS k.fst, LS k.snd]) (ok := false) k (.agg [LI b.1, LI b.2.1, LI b.2.2]) (by kernel_rfl) mp_ty kt_key zero_b3 hM rfl rfl hR718 (by rw [show (look k _).getD (0, 0, 0) = b from hv]; rfl) (fun hR719 => ?_)
  refine sim_ordN 1 [] hR719 (by kernel_rfl) trivial (fun ρ720 w720 hm720 hR720 => ?_)
  have hag := hag.moved (hm720.castL (by kernel_rfl))
  have hM := hM.moved (hm720.castL (by kernel_rfl))
  have hbox := hbox.moved (hm720.castL (by kernel_rfl))
  refine sim_ord_endR hR720 (by kernel_rfl) (fun hR721 => ?_)
  refine sim_run 2 [] hR721 (by kernel_rfl) trivial (fun ρ722 w722 hm722 hR722 => ?_)
  have hag := hag.moved (hm722.castL (by kernel_rfl))
  have hM := hM.moved (hm722.castL (by kernel_rfl))
  have hbox := hbox.moved (hm722.castL (by kernel_rfl))
  rotate_left
  
  · have e1 := hno (fun h => by simp [h.1] at hq703)
    unfold addL
    rw [e1, if_neg (by decide)]
    exact poq_of (by assumption : Rel _ _ _ _ _) hag e0 (by kernel_rfl) hbox hM (.inl rfl)
  · have e1 := hno (fun h => by omega)
    unfold addL
    rw [e1, if_neg (by decide)]
    exact poq_of (by assumption : Rel _ _ _ _ _) hag e0 (by kernel_rfl) hbox hM (.inl rfl)
  · have e1 := hno (fun h => by omega)
    unfold addL
    rw [e1, if_neg (by decide)]
    exact poq_of (by assumption : Rel _ _ _ _ _) hag e0 (by kernel_rfl) hbox hM (.inl rfl)
  all_goals
    have hs : 0 ≤ sub ∧ sub < 3 := by simpa using hq703
    refine sim_to (regK Try.f16 4) (tmplJ Try.f16.ntmps 0 [(0, .ptr 0 0), (2, LI sub), (3, LI by'), (5, .ptr 1 0), (9, .ptr 2 0)]) (rsA m k b) (by kernel_rfl) (by kernel_rfl) (by kernel_rfl) (fun d => ?_)
    exact add_test g m k b sub by' l clock w _ _ ρ d hs (by omega) hv hvo (Rel.cast (by assumption) (by kernel_rfl)) (hag.castR (by kernel_rfl)) e0 (hM.castR (by kernel_rfl)) (hbox.castR (by kernel_rfl))
end

section
open Go Go.RowKit
attribute [local irreducible] run goO leaveK someK nextK nextT nextOT nextOD loopBody loopRest loopK fillJ tmplOf tmplJ mergeT At AtO drawOk ordOf gateOf callC callO topOp topO idxOf appOf storeOf clearOf sliceOf calleeOf calleeO topQ idxQ newRowOf resL stepOp seek

theorem partB_out {sub : Int} : (0 ≤ sub ∧ sub < 3) → sub = 0 ∨ sub = 1 ∨ sub = 2 := by omega
def partM (b : B3) (sub : Int) : Int := if 0 ≤ sub ∧ sub < 3 then partB b sub else 0
set_option maxRecDepth 100000 in
theorem part_any (g : Nat) (m : Option Nat) (l : List (Ent Key B3)) (clock : Nat) (k : Key) (sub : Int) (w : World) (hb : Blk w g 74 #[.map m]) (hM : MpO encK encB ρ0 [] w m l clock) :
    Calls Try.prog 19 #[.pointer (some ⟨g, 0, none⟩), .agg #[.string k.1, .string k.2], .int .i64 sub] w fun e w' => e = .returned (.int .i64 (partM (getM l k) sub)) ∧ Below w.heap.size w w' := by
  have hg : w.cell? ⟨g, 0, none⟩ = some (.map m) := hb.cell 0
  obtain ⟨ρ, _, e0, hR⟩ := (Rel.start [] w ρ0).open_ rfl g 0 [.v (.map m)] rfl false (World.block_lt_of_cell? _ _ hg) (fun j v hv => by
    match j, hv with
    | 0, hv => injection hv with hv; rw [← hv]; exact hg) (fun h => by cases h) (fun n r hn => by simp at hn)
  have e0 : ρ 0 = (g, 0) := e0
  refine sim_enter Try.func19 ρ [.ptr 0 0, .agg [LS k.1, LS k.2], LI sub] [⟨[.v (.map m)], false⟩] (by kernel_rfl) (by simp only [denL, LV.den, Nm.at_, e0]) ?_
  have hR := hR.cast rfl
  have hM := hM.over (ρ := ρ) (r := ⟨[.v (.map m)], false⟩) hb e0
  obtain ⟨b, hv⟩ : ∃ b, getM l k = b := ⟨_, rfl⟩
  rw [hv]
  by_cases hs : 0 ≤ sub ∧ sub < 3
  · obtain ⟨s1, s2⟩ := hs
    have e1 : partM b sub = partB b sub := by unfold partM; rw [if_pos ⟨s1, s2⟩]
    rw [e1]
    rcases partB_out ⟨s1, s2⟩ with rfl | rfl | rfl
    · refine sim_run 12 [] (hR.cast (by kernel_rfl)) (by kernel_rfl) trivial (fun ρ100 w100 hm100 hR100 => ?_)
      have hM := hM.moved (hm100.castL (by kernel_rfl))
      refine sim_call 36 [LI 0] (by kernel_rfl) ?_
      refine Calls.mono (isPart_any _ _) ?_
      rintro e101 w101 ⟨rfl, hb101⟩
      have hR101 := hR100.below hb101
      have hM := hM.below hb101
      refine Back.of (LB (decide (0 ≤ 0) && decide (0 < 3))) hR101 rfl ?_
      refine sim_run 6 [] (hR101.cast (by kernel_rfl)) (by kernel_rfl) trivial (fun ρ102 w102 hm102 hR102 => ?_)
      have hM := hM.moved (hm102.castL (by kernel_rfl))
      refine sim_draw [] (by kernel_rfl) (by kernel_rfl) hR102 (fun hR103 => ?_)
      have hM := hM.drew
      refine sim_ordN 6 [] hR103 (by kernel_rfl) trivial (fun ρ104 w104 hm104 hR104 => ?_)
      have hM := hM.moved (hm104.castL (by kernel_rfl))
      refine sim_ord_look (enc := encK) (encV := encB) (mx := .v (Value.map m)) (kx := .agg [LS k.fst, LS k.snd]) (ok := false) k (.agg [LI b.1, LI b.2.1, LI b.2.2]) (by kernel_rfl) mp_ty kt_key zero_b3 hM rfl rfl hR104 (by rw [show (look k _).getD (0, 0, 0) = b from hv]; rfl) (fun hR105 => ?_)
      refine sim_ordN 2 [] hR105 (by kernel_rfl) trivial (fun ρ106 w106 hm106 hR106 => ?_)
      have hM := hM.moved (hm106.castL (by kernel_rfl))
      refine sim_ord_endR hR106 (by kernel_rfl) (fun hR107 => ?_)
      refine sim_ret (LI b.fst) hR107 (by kernel_rfl) (by kernel_rfl) ?_
      exact ⟨rfl, hR107.toBelow⟩
      
    · refine sim_run 12 [] (hR.cast (by kernel_rfl)) (by kernel_rfl) trivial (fun ρ200 w200 hm200 hR200 => ?_)
      have hM := hM.moved (hm200.castL (by kernel_rfl))
      refine sim_call 36 [LI 1] (by kernel_rfl) ?_
      refine Calls.mono (isPart_any _ _) ?_
      rintro e201 w201 ⟨rfl, hb201⟩
      have hR201 := hR200.below hb201
      have hM := hM.below hb201
      refine Back.of (LB (decide (0 ≤ 1) && decide (1 < 3))) hR201 rfl ?_
      refine sim_run 6 [] (hR201.cast (by kernel_rfl)) (by kernel_rfl) trivial (fun ρ202 w202 hm202 hR202 => ?_)
      have hM := hM.moved (hm202.castL (by kernel_rfl))
      refine sim_draw [] (by kernel_rfl) (by kernel_rfl) hR202 (fun hR203 => ?_)
      have hM := hM.drew
      refine sim_ordN 6 [] hR203 (by kernel_rfl) trivial (fun ρ204 w204 hm204 hR204 => ?_)
      have hM := hM.moved (hm204.castL (by kernel_rfl))
      refine sim_ord_look (enc := encK) (encV := encB) (mx := .v (Value.map m)) (kx := .agg [LS k.fst, LS k.snd]) (ok := false) k (.agg [LI b.1, LI b.2.1, LI b.2.2]) (by kernel_rfl) mp_ty kt_key zero_b3 hM rfl rfl hR204 (by rw [show (look k _).getD (0, 0, 0) = b from hv]; rfl) (fun hR205 => ?_)
      refine sim_ordN 2 [] hR205 (by kernel_rfl) trivial (fun ρ206 w206 hm206 hR206 => ?_)
      have hM := hM.moved (hm206.castL (by kernel_rfl))
      refine sim_ord_endR hR206 (by kernel_rfl) (fun hR207 => ?_)
      refine sim_ret (LI b.snd.fst) hR207 (by kernel_rfl) (by kernel_rfl) ?_
      exact ⟨rfl, hR207.toBelow⟩
      
    · refine sim_run 12 [] (hR.cast (by kernel_rfl)) (by kernel_rfl) trivial (fun ρ300 w300 hm300 hR300 => ?_)
      have hM := hM.moved (hm300.castL (by kernel_rfl))
      refine sim_call 36 [LI 2] (by kernel_rfl) ?_
      refine Calls.mono (isPart_any _ _) ?_
      rintro e301 w301 ⟨rfl, hb301⟩
      have hR301 := hR300.below hb301
      have hM := hM.below hb301
      refine Back.of (LB (decide (0 ≤ 2) && decide (2 < 3))) hR301 rfl ?_
      refine sim_run 6 [] (hR301.cast (by kernel_rfl)) (by kernel_rfl) trivial (fun ρ302 w302 hm302 hR302 => ?_)
      have hM := hM.moved (hm302.castL (by kernel_rfl))
      refine sim_draw [] (by kernel_rfl) (by kernel_rfl) hR302 (fun hR303 => ?_)
      have hM := hM.drew
      refine sim_ordN 6 [] hR303 (by kernel_rfl) trivial (fun ρ304 w304 hm304 hR304 => ?_)
      have hM := hM.moved (hm304.castL (by kernel_rfl))
      refine sim_ord_look (enc := encK) (encV := encB) (mx := .v (Value.map m)) (kx := .agg [LS k.fst, LS k.snd]) (ok := false) k (.agg [LI b.1, LI b.2.1, LI b.2.2]) (by kernel_rfl) mp_ty kt_key zero_b3 hM rfl rfl hR304 (by rw [show (look k _).getD (0, 0, 0) = b from hv]; rfl) (fun hR305 => ?_)
      refine sim_ordN 2 [] hR305 (by kernel_rfl) trivial (fun ρ306 w306 hm306 hR306 => ?_)
      have hM := hM.moved (hm306.castL (by kernel_rfl))
      refine sim_ord_endR hR306 (by kernel_rfl) (fun hR307 => ?_)
      refine sim_ret (LI b.snd.snd) hR307 (by kernel_rfl) (by kernel_rfl) ?_
      exact ⟨rfl, hR307.toBelow⟩
      
  · have e1 : partM b sub = 0 := by unfold partM; rw [if_neg hs]
    rw [e1]
    have e2 : (decide (0 ≤ sub) && decide (sub < 3)) = false := by simp; omega
    refine sim_run 12 [] (hR.cast (by kernel_rfl)) (by kernel_rfl) trivial (fun ρ400 w400 hm400 hR400 => ?_)
    have hM := hM.moved (hm400.castL (by kernel_rfl))
    refine sim_call 36 [LI sub] (by kernel_rfl) ?_
    refine Calls.mono (isPart_any _ _) ?_
    rintro e401 w401 ⟨rfl, hb401⟩
    have hR401 := hR400.below hb401
    have hM := hM.below hb401
    refine Back.of (LB (decide (0 ≤ sub) && decide (sub < 3))) hR401 rfl ?_
    refine sim_run 3 [] (hR401.cast (by kernel_rfl)) (by kernel_rfl) trivial (fun ρ402 w402 hm402 hR402 => ?_)
    have hM := hM.moved (hm402.castL (by kernel_rfl))
    refine sim_know 13 (!(decide (0 ≤ sub) && decide (sub < 3))) true (by kernel_rfl) (by simp; omega) ?_
    refine sim_run 5 [] (hR402.cast (by kernel_rfl)) (by kernel_rfl) trivial (fun ρ403 w403 hm403 hR403 => ?_)
    have hM := hM.moved (hm403.castL (by kernel_rfl))
    refine sim_ret (LI 0) hR403 (by kernel_rfl) (by kernel_rfl) ?_
    exact ⟨rfl, hR403.toBelow⟩
    
theorem Rel.rowW {T : List Nat} {w0 : World} {ρ : Nm} {rs : List Reg} {w : World} {g : Nat} {t : TypeId} {cur : List Value} (_ : Rel T w0 ρ rs w) (h : Blk w g t cur.toArray) : RowV ρ rs w g t cur := .start h ρ rs
theorem box_cell1 {T : List Nat} {w0 : World} {ρ ρb : Nm} {rs : List Reg} {w : World} {g N0 : Nat} {t : TypeId} {cur : List Value} {u : Value} (h : RowV ρ rs w g t cur) (hR : Rel T w0 ρ rs w) (hag : Ag N0 ρb ρ rs) (hn : rs[0]? = some ⟨[.v u], true⟩) (e0 : ρb 0 = (g, 0)) (hl : 1 = cur.length) (hN : 0 < N0 := by omega) : Blk w g t #[u] := h.full hR hag hn e0 hl
theorem new_any (w : World) : Calls Try.prog 14 #[] w fun e w' => ∃ g, e = .returned (.pointer (some ⟨g, 0, none⟩)) ∧ w.heap.size ≤ g ∧ Blk w' g 74 #[.map none] ∧ Below w.heap.size w w' := by
  refine sim_enter Try.func14 ρ0 [] [] (by kernel_rfl) rfl ?_
  have hR := Rel.start [] w ρ0
  refine sim_run 7 [] (hR.cast (by kernel_rfl)) (by kernel_rfl) trivial (fun ρ500 w500 hm500 hR500 => ?_)
  
  refine sim_box (e := 74) (x := .agg [.v (.map none)]) 0 (by kernel_rfl) (by kernel_rfl) hR500 (by kernel_rfl) (fun ρ2 w2 hm2 e2 hR2 hb2 => ?_)
  have hag := hR2.ag_ 1 (by kernel_rfl)
  have hbox := hR2.rowW (cur := [.map none]) hb2
  refine sim_run 2 [] (hR2.cast (by kernel_rfl)) (by kernel_rfl) trivial (fun ρ600 w600 hm600 hR600 => ?_)
  have hag := hag.moved (hm600.castL (by kernel_rfl))
  have hbox := hbox.moved (hm600.castL (by kernel_rfl))
  refine sim_ret (.ptr 0 0) hR600 (by kernel_rfl) (by kernel_rfl) ?_
  
  have hsz := hR500.keeps.size
  exact ⟨w500.heap.size, by simp only [LV.den, Nm.at_, hag.at_ 0 (by omega), e2, Nat.add_zero], hsz, box_cell1 hbox (by assumption : Rel _ _ _ _ _) hag (by kernel_rfl) e2 rfl, ((by assumption : Rel _ _ _ _ _)).toBelow⟩
end
end Go.Proofs.Ytgbgedaedcofcaa
