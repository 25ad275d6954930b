/-
  complinelaw11.Op: its cells, and what is known of one that was handed in; a list of postings that was handed in; complinelaw11.Light.
-/
import Derived.Test.YtgbgedaedcofcaaPstP
namespace Go.Proofs.Ytgbgedaedcofcaa
open Go.ChangeShapes Go.WideShapes Go.ChangeAt Go.RowKit

structure OpL where
  kind : Int
  amt : Int
  acc : ByteArray
  asset : ByteArray
  A : Option Addr
  n : Nat
  c : Nat
  ps : List OpP
def OpL.cells (o : OpL) : List Value := [.int .i64 o.kind, .int .i64 o.amt, .string o.acc, .string o.asset, .slice o.A o.n o.c]
/-- postings that were handed in -/
structure PsIn (w : World) (M : Nat) (A : Option Addr) (n c : Nat) (ps : List OpP) : Prop where
  rd : Posts w w.heap.size A n ps
  sz : ∀ p ∈ ps, p.acc.size ≤ M ∧ p.asset.size ≤ M
  max : n ≤ maxLen
structure OpL.ok (w : World) (M : Nat) (o : OpL) : Prop where
  kind : Is64 o.kind
  amt : Is64 o.amt
  acc : o.acc.size ≤ M
  asset : o.asset.size ≤ M
  ps : PsIn w M o.A o.n o.c o.ps
def OpL.val (o : OpL) : Value := .agg o.cells.toArray
def postSh : List Sh := [.text, .text, .int, .int]
def opLSh : List Sh := [.int, .int, .text, .text, .rows postSh]
theorem opL_sh : shOf Try.prog 6 61 = some opLSh := by kernel_rfl
theorem post_of {w : World} {M : Nat} (hM : M ≤ 9223372036854775807) {cs : List Value} (h0 : Sh.all w M postSh cs) : ∃ x : OpP, cs = x.cells ∧ x.ok ∧ x.acc.size ≤ M ∧ x.asset.size ≤ M := by
  obtain ⟨a0, r0, rfl, t0, h1⟩ := all_text h0
  obtain ⟨a1, r1, rfl, t1, h2⟩ := all_text h1
  obtain ⟨i0, r2, rfl, s0, h3⟩ := all_int h2
  obtain ⟨i1, r3, rfl, s1, h4⟩ := all_int h3
  obtain rfl := all_nil h4
  exact ⟨⟨a0, a1, i0, i1⟩, rfl, ⟨s0, s1, by dsimp only; omega, by dsimp only; omega⟩, t0, t1⟩
theorem posts_of {w : World} {M : Nat} (hM : M ≤ 9223372036854775807) : ∀ (xss : List (List Value)), (∀ x ∈ xss, Sh.all w M postSh x) → ∃ ps : List OpP, xss = ps.map OpP.cells ∧ (∀ o ∈ ps, o.ok) ∧ ∀ o ∈ ps, o.acc.size ≤ M ∧ o.asset.size ≤ M
  | [], _ => ⟨[], rfl, by simp, by simp⟩
  | x :: xss, h => by
    obtain ⟨os, rfl, h2, h3⟩ := posts_of hM xss (fun y hy => h y (by simp [hy]))
    obtain ⟨o, rfl, ho, ho2⟩ := post_of hM (h x (by simp))
    exact ⟨o :: os, rfl, List.forall_mem_cons.2 ⟨ho, h2⟩, List.forall_mem_cons.2 ⟨ho2, h3⟩⟩
theorem psIn_of {w : World} {M : Nat} (hM : M ≤ 9223372036854775807) {A : Option Addr} {n c : Nat} {xss : List (List Value)} (h1 : Reads w w.heap.size postSh.length A n (List.flatten xss)) (h2 : n ≤ c) (h3 : c ≤ maxLen) (h4 : xss.length = n) (h5 : ∀ x ∈ xss, Sh.all w M postSh x) : ∃ ps, PsIn w M A n c ps := by
  obtain ⟨ps, rfl, h6, h7⟩ := posts_of hM xss h5
  exact ⟨ps, ⟨h1, by simpa using h4, h6⟩, h7, by omega⟩
theorem opL_of {w : World} {M : Nat} (hM : M ≤ 9223372036854775807) {cs : List Value} (h0 : Sh.all w M opLSh cs) : ∃ x : OpL, cs = x.cells ∧ x.ok w M := by
  obtain ⟨i0, r0, rfl, s0, h1⟩ := all_int h0
  obtain ⟨i1, r1, rfl, s1, h2⟩ := all_int h1
  obtain ⟨a0, r2, rfl, t0, h3⟩ := all_text h2
  obtain ⟨a1, r3, rfl, t1, h4⟩ := all_text h3
  obtain ⟨v, vs, rfl, h5, h6⟩ := all_cons h4
  obtain rfl := all_nil h6
  simp only [Sh.fits] at h5
  obtain ⟨A, n, c, xss, rfl, g1, g2, g3, g4, g5, _⟩ := h5
  obtain ⟨ps, hps⟩ := psIn_of hM g1 g2 g3 g4 g5
  exact ⟨⟨i0, i1, a0, a1, A, n, c, ps⟩, rfl, ⟨s0, s1, t0, t1, hps⟩⟩
theorem opLs_of {w : World} {M : Nat} (hM : M ≤ 9223372036854775807) : ∀ (xss : List (List Value)), (∀ x ∈ xss, Sh.all w M opLSh x) → ∃ os : List OpL, xss = os.map OpL.cells ∧ ∀ o ∈ os, o.ok w M
  | [], _ => ⟨[], rfl, by simp⟩
  | x :: xss, h => by
    obtain ⟨os, rfl, h2⟩ := opLs_of hM xss (fun y hy => h y (by simp [hy]))
    obtain ⟨o, rfl, ho⟩ := opL_of hM (h x (by simp))
    exact ⟨o :: os, rfl, List.forall_mem_cons.2 ⟨ho, h2⟩⟩
theorem opL_len (os : List OpL) : ∀ y ∈ os.map OpL.cells, y.length = 5 := by
  intro y hy
  obtain ⟨o, _, rfl⟩ := List.mem_map.1 hy
  rfl
/-- a list of them -/
structure OpLs (w : World) (A : Option Addr) (n M : Nat) (os : List OpL) : Prop where
  rd : Reads w w.heap.size 5 A n (os.map OpL.cells).flatten
  len : os.length = n
  ok : ∀ o ∈ os, o.ok w M
  max : n ≤ maxLen
theorem Posts.at_ {w w' : World} {B : Nat} {A : Option Addr} {n : Nat} {ps : List OpP} (h : Posts w B A n ps) (hB : B ≤ w.heap.size) (hb : Below w.heap.size w w') : Posts w' B A n ps := ⟨h.1.below (hb.mono hB), h.2⟩
theorem PsIn.at_ {w w' : World} {M : Nat} {A : Option Addr} {n c : Nat} {ps : List OpP} (h : PsIn w M A n c ps) (hb : Below w.heap.size w w') : PsIn w' M A n c ps :=
  ⟨⟨(h.rd.1.below hb).more hb.size, h.rd.2⟩, h.sz, h.max⟩
theorem OpL.ok.at_ {w w' : World} {M : Nat} {o : OpL} (h : o.ok w M) (hb : Below w.heap.size w w') : o.ok w' M := ⟨h.kind, h.amt, h.acc, h.asset, h.ps.at_ hb⟩
theorem OpLs.at_ {w w' : World} {A : Option Addr} {n M : Nat} {os : List OpL} (h : OpLs w A n M os) (hb : Below w.heap.size w w') : OpLs w' A n M os :=
  ⟨(h.rd.below hb).more hb.size, h.len, fun o ho => (h.ok o ho).at_ hb, h.max⟩
theorem OpLs.get {w : World} {A : Option Addr} {n M k : Nat} {os : List OpL} (h : OpLs w A n M os) (hk : k < n) : ∃ o, os[k]? = some o ∧ o.ok w M ∧ (os.map OpL.cells)[k]? = some o.cells := by
  have := h.len
  refine ⟨os[k]'(by omega), List.getElem?_eq_getElem _, h.ok _ (List.getElem_mem _), ?_⟩
  rw [List.getElem?_map, List.getElem?_eq_getElem (by omega)]
  rfl
set_option maxRecDepth 100000 in
theorem open_opL {H : Type} {enc : TypeId × Value → H} {w : World} {r : Reach} {b0 M : Nat} (hM : M ≤ 9223372036854775807) {v : Value} {d : DataW H} {p : List MemPlace} (hv : Value.okWide Try.prog w r b0 61 v) (h : DataW.Trod enc Try.prog w 0 (fun _ => true) true 61 v d p) (hw : maxLen ≤ M ∨ ∀ m ∈ d.weights Try.prog 61, m ≤ M) :
    ∃ x : OpL, v = x.val ∧ x.ok w M := by
  obtain ⟨cs, rfl, h1⟩ := open_structW Try.underlying61 opL_sh hv h hw
  obtain ⟨x, rfl, hx⟩ := opL_of hM h1
  exact ⟨x, rfl, hx⟩
set_option maxRecDepth 100000 in
theorem open_opLs {H : Type} {enc : TypeId × Value → H} {w : World} {r : Reach} {b0 M : Nat} (hM : M ≤ 9223372036854775807) {v : Value} {d : DataW H} {p : List MemPlace} (hv : Value.okWide Try.prog w r b0 58 v) (h : DataW.Trod enc Try.prog w 0 (fun _ => true) true 58 v d p) (hw : maxLen ≤ M ∨ ∀ m ∈ d.weights Try.prog 58, m ≤ M) :
    ∃ A n c os, v = .slice A n c ∧ OpLs w A n M os := by
  obtain ⟨A, n, c, xss, rfl, h1, h2, h3, h4, h5, h6⟩ := open_rowsW (n0 := 7) Try.underlying58 (by kernel_rfl) hv h hw
  obtain ⟨os, rfl, hos⟩ := opLs_of hM xss h5
  exact ⟨A, n, c, os, rfl, h1, by simpa using h4, hos, by omega⟩
set_option maxRecDepth 100000 in
theorem open_psIn {H : Type} {enc : TypeId × Value → H} {w : World} {r : Reach} {b0 M : Nat} (hM : M ≤ 9223372036854775807) {v : Value} {d : DataW H} {p : List MemPlace} (hv : Value.okWide Try.prog w r b0 48 v) (h : DataW.Trod enc Try.prog w 0 (fun _ => true) true 48 v d p) (hw : maxLen ≤ M ∨ ∀ m ∈ d.weights Try.prog 48, m ≤ M) :
    ∃ A n c ps, v = .slice A n c ∧ PsIn w M A n c ps := by
  obtain ⟨A, n, c, xss, rfl, h1, h2, h3, h4, h5, h6⟩ := open_rowsW (n0 := 6) Try.underlying48 (by kernel_rfl) hv h hw
  obtain ⟨ps, hps⟩ := psIn_of hM h1 h2 h3 h4 h5
  exact ⟨A, n, c, ps, rfl, hps⟩
/-! ### Light -/
def roomI (left : Int) (n : Nat) : Int := if left < 0 ∨ left < n then -1 else left - n
def roomF (os : List OpL) : Int := os.foldl (fun r o => roomI r o.n) 1500
def lightB (os : List OpL) : Bool := decide ((os.length : Int) ≤ 100) && decide (0 ≤ roomF os)
theorem roomI_le {r : Int} {n : Nat} (h : 0 ≤ roomI r n) : 0 ≤ r ∧ (n : Int) ≤ r ∧ roomI r n ≤ r := by
  unfold roomI at *
  split at h
  · omega
  · rw [if_neg (by assumption)]
    omega
theorem roomF_neg : ∀ (os : List OpL) {r : Int}, r < 0 → os.foldl (fun r o => roomI r o.n) r < 0
  | [], _, h => h
  | o :: os, r, h => roomF_neg os (r := roomI r o.n) (by unfold roomI; rw [if_pos (.inl h)]; omega)
theorem roomF_each : ∀ (os : List OpL) {r : Int}, 0 ≤ os.foldl (fun r o => roomI r o.n) r → ∀ o ∈ os, (o.n : Int) ≤ r
  | [], _, _, o, h => by cases h
  | q :: os, r, h, o, ho => by
    have h1 : 0 ≤ roomI r q.n := Classical.byContradiction fun hn => by
      have := roomF_neg os (r := roomI r q.n) (by omega)
      have h : 0 ≤ os.foldl (fun r o => roomI r o.n) (roomI r q.n) := h
      omega
    obtain ⟨_, h2, h3⟩ := roomI_le h1
    rcases List.mem_cons.1 ho with rfl | ho
    · exact h2
    · have := roomF_each os (r := roomI r q.n) h o ho
      omega
theorem light_of {os : List OpL} (h : lightB os = true) : os.length ≤ 100 ∧ ∀ o ∈ os, o.n ≤ 1500 := by
  unfold lightB at h
  simp only [Bool.and_eq_true, decide_eq_true_eq] at h
  exact ⟨by omega, fun o ho => by have := roomF_each os h.2 o ho; omega⟩
attribute [local irreducible] run goO leaveK someK nextK nextT nextOT nextOD loopBody loopRest loopK fillJ tmplOf tmplJ mergeT At AtO drawOk ordOf gateOf callC callO topOp topO idxOf appOf storeOf clearOf sliceOf calleeOf calleeO topQ idxQ newRowOf resL stepOp seek
set_option maxRecDepth 100000 in
theorem room_any (left : Int) (n : Nat) (A : Option Addr) (B cp : Nat) (w : World) (h : Reads w B 1 A 1 [.int .i64 n]) (hB : B ≤ w.heap.size) (hl : -4611686018427387904 ≤ left ∧ left ≤ 4611686018427387904) (hn : n ≤ maxLen) :
    Calls Try.prog 46 #[.int .i64 left, .slice A 1 cp] w fun e w' => e = .returned (.int .i64 (roomI left n)) ∧ Below w.heap.size w w' := by
  unfold maxLen at hn
  obtain ⟨g, o, rfl, hg, hc0⟩ := h.spot (by omega) (by omega)
  refine sim_enter Try.func46 ρ0 [LI left, .v (.slice (some ⟨g, o, none⟩) 1 cp)] [] (by kernel_rfl) rfl ?_
  have hR := Rel.start [] w ρ0
  by_cases hc : left < 0 ∨ left < n
  · have hr : roomI left n = -1 := if_pos hc
    rw [hr]
    refine sim_run 10 [] (hR.cast (by kernel_rfl)) (by kernel_rfl) trivial (fun ρ100 w100 hm100 hR100 => ?_)
    refine sim_unroll 3 (by kernel_rfl) ?_
    refine sim_run 19 [] (hR100.cast (by kernel_rfl)) (by kernel_rfl) trivial (fun ρ101 w101 hm101 hR101 => ?_)
    refine sim_fork 14 (decide (left < 0)) (by kernel_rfl) (fun hq102 => ?_) (fun hq102 => ?_)
    have hq102 := of_decide_eq_true hq102
    refine sim_run 13 [] (hR101.cast (by kernel_rfl)) (by kernel_rfl) trivial (fun ρ103 w103 hm103 hR103 => ?_)
    refine sim_ret (LI (-1)) hR103 (by kernel_rfl) (by kernel_rfl) ?_
    exact ⟨rfl, hR103.toBelow⟩
    have hq102 := of_decide_eq_false hq102
    refine sim_run 2 [] (hR101.cast (by kernel_rfl)) (by kernel_rfl) trivial (fun ρ104 w104 hm104 hR104 => ?_)
    refine sim_cell cp 0 0 (.int .i64 n) (by kernel_rfl) (by kernel_rfl) (by omega) h rfl hB (by simp) hR104 (by kernel_rfl) (fun ρ105 hm105 hg105 hR105 => ?_)
    refine sim_run 5 [] (hR105.cast (by kernel_rfl)) (by kernel_rfl) trivial (fun ρ106 w106 hm106 hR106 => ?_)
    refine sim_know 21 (decide ((↑n : Int) > left)) true (by kernel_rfl) (decide_eq_true (by omega)) ?_
    refine sim_run 5 [] (hR106.cast (by kernel_rfl)) (by kernel_rfl) trivial (fun ρ107 w107 hm107 hR107 => ?_)
    refine sim_ret (LI (-1)) hR107 (by kernel_rfl) (by kernel_rfl) ?_
    exact ⟨rfl, hR107.toBelow⟩
    
  · have hr : roomI left n = left - n := if_neg hc
    rw [hr]
    refine sim_run 10 [] (hR.cast (by kernel_rfl)) (by kernel_rfl) trivial (fun ρ200 w200 hm200 hR200 => ?_)
    refine sim_unroll 3 (by kernel_rfl) ?_
    refine sim_run 19 [] (hR200.cast (by kernel_rfl)) (by kernel_rfl) trivial (fun ρ201 w201 hm201 hR201 => ?_)
    refine sim_know 14 (decide (left < 0)) false (by kernel_rfl) (decide_eq_false (by omega)) ?_
    refine sim_run 2 [] (hR201.cast (by kernel_rfl)) (by kernel_rfl) trivial (fun ρ202 w202 hm202 hR202 => ?_)
    refine sim_cell cp 0 0 (.int .i64 n) (by kernel_rfl) (by kernel_rfl) (by omega) h rfl hB (by simp) hR202 (by kernel_rfl) (fun ρ203 hm203 hg203 hR203 => ?_)
    refine sim_run 5 [] (hR203.cast (by kernel_rfl)) (by kernel_rfl) trivial (fun ρ204 w204 hm204 hR204 => ?_)
    refine sim_know 21 (decide ((↑n : Int) > left)) false (by kernel_rfl) (decide_eq_false (by omega)) ?_
    refine sim_run 6 [] (hR204.cast (by kernel_rfl)) (by kernel_rfl) trivial (fun ρ205 w205 hm205 hR205 => ?_)
    refine sim_cell cp 0 1 (.int .i64 n) (by kernel_rfl) (by kernel_rfl) (by omega) h rfl hB (by simp) hR205 (by kernel_rfl) (fun ρ206 hm206 hg206 hR206 => ?_)
    refine sim_run 26 [⟨6, 5, LI (IntKind.i64.wrap (left - (↑n : Int))), LI (left - (↑n : Int))⟩] (hR206.cast (by kernel_rfl)) (by kernel_rfl) ⟨eqi (IntWalk.i64_in _ (by omega)), trivial⟩ (fun ρ207 w207 hm207 hR207 => ?_)
    refine sim_ret (LI (left - (↑n : Int))) hR207 (by kernel_rfl) (by kernel_rfl) ?_
    exact ⟨rfl, hR207.toBelow⟩
    
theorem roomF_bd (os : List OpL) : ∀ {r : Int}, -1 ≤ r ∧ r ≤ 1500 → -1 ≤ os.foldl (fun r o => roomI r o.n) r ∧ os.foldl (fun r o => roomI r o.n) r ≤ 1500 := by
  induction os with
  | nil => exact fun h => h
  | cons o os ih =>
    intro r h
    refine ih (r := roomI r o.n) ?_
    unfold roomI
    split <;> omega
set_option maxRecDepth 100000 in
set_option maxHeartbeats 4000000 in
theorem light11_any (A : Option Addr) (n cp B : Nat) (os : List OpL) (w : World) (h : Reads w B 5 A n (os.map OpL.cells).flatten) (hB : B ≤ w.heap.size) (hlen : os.length = n) (hmax : n ≤ maxLen) (hnp : ∀ o ∈ os, o.n ≤ maxLen) :
    Calls Try.prog 28 #[.slice A n cp] w fun e w' => e = .returned (.bool (lightB os)) ∧ Below w.heap.size w w' := by
  unfold maxLen at hmax
  refine sim_enter Try.func28 ρ0 [.v (.slice A n cp)] [] (by kernel_rfl) rfl ?_
  have hR := Rel.start [] w ρ0
  refine sim_run 14 [] (hR.cast (by kernel_rfl)) (by kernel_rfl) trivial (fun ρ300 w300 hm300 hR300 => ?_)
  
  refine sim_loop (ι := Nat × Int) (T := []) (w0 := w) (0, 1500) [0] (fun x => [(3, LI x.2), (4, LI x.1)]) (fun _ => []) (fun x _ => x.1 ≤ n ∧ x.1 ≤ 200 ∧ x.2 = roomF (os.take x.1)) (fun x => n - x.1) (by kernel_rfl) (by kernel_rfl) (hR300.cast (by kernel_rfl)) ⟨Nat.zero_le _, Nat.zero_le _, rfl⟩ ?_
  clear hm300 hR300
  rintro ⟨k, r⟩ d w2 hR2 ⟨hk, hk2, hr⟩
  dsimp only at hk hk2 hr
  have hbd := roomF_bd (os.take k) (r := 1500) (by omega)
  have hbd : -1 ≤ r ∧ r ≤ 1500 := by rw [hr]; exact hbd
  by_cases hlt : k < n ∧ k < 200 ∧ 0 ≤ r
  · have ho : os[k]? = some (os[k]'(by omega)) := List.getElem?_eq_getElem _
    obtain ⟨o, ho⟩ : ∃ o, os[k]? = some o := ⟨_, ho⟩
    have hx : (os.map OpL.cells)[k]? = some o.cells := by rw [List.getElem?_map, ho]; rfl
    have hon := hnp o (List.mem_of_getElem? ho)
    have hext : roomI r o.n = roomF (os.take (k + 1)) := by
      unfold roomF
      rw [List.take_add_one, ho, List.foldl_append, hr]
      rfl
    obtain ⟨ga, oa, rfl, _, _⟩ := h.spot (by omega) (by omega)
    obtain ⟨hl1, hl2, hl3⟩ := hlt
    refine sim_run 8 [] (hR2.cast (by kernel_rfl)) (by kernel_rfl) trivial (fun ρ400 w400 hm400 hR400 => ?_)
    refine sim_know 9 (decide ((↑(k, r).fst : Int) < (↑n : Int))) true (by kernel_rfl) (decide_eq_true (by omega)) ?_
    refine sim_run 4 [] (hR400.cast (by kernel_rfl)) (by kernel_rfl) trivial (fun ρ401 w401 hm401 hR401 => ?_)
    refine sim_know 13 (decide ((↑(k, r).fst : Int) < 200)) true (by kernel_rfl) (decide_eq_true (by omega)) ?_
    refine sim_run 4 [] (hR401.cast (by kernel_rfl)) (by kernel_rfl) trivial (fun ρ402 w402 hm402 hR402 => ?_)
    refine sim_know 16 (decide ((k, r).snd ≥ 0)) true (by kernel_rfl) (decide_eq_true (by omega)) ?_
    refine sim_run 8 [] (hR402.cast (by kernel_rfl)) (by kernel_rfl) trivial (fun ρ403 w403 hm403 hR403 => ?_)
    refine sim_elem o.cells cp k 0 (by kernel_rfl) (by kernel_rfl) hx h (opL_len os) (by omega) hl1 hB (by simp) hR403 (by kernel_rfl) (fun ρ404 hm404 hf404 hg404 hR404 => ?_)
    refine sim_run 4 [] (hR404.cast (by kernel_rfl)) (by kernel_rfl) trivial (fun ρ405 w405 hm405 hR405 => ?_)
    refine sim_call 46 [LI ((k, r).snd), .slc 1 0 1 1] (by kernel_rfl) ?_
    refine Calls.mono (room_any (r) (o.n) _ _ _ _ (hR405.readsP (n := 1) (size := 1) (m := 1) (vs := [.int .i64 (o.n : Int)]) (b := true) (by kernel_rfl) rfl) (by omega) (by omega) (by assumption)) ?_
    rintro e406 w406 ⟨rfl, hb406⟩
    have hR406 := hR405.below hb406
    refine Back.of (LI (roomI r o.n)) hR406 rfl ?_
    refine sim_run 8 [⟨4, 1, LI (IntKind.i64.wrap ((↑(k, r).fst : Int) + 1)), LI ((↑(k, r).fst : Int) + 1)⟩] (hR406.cast (by kernel_rfl)) (by kernel_rfl) ⟨eqi (IntWalk.i64_in _ (by omega)), trivial⟩ (fun ρ407 w407 hm407 hR407 => ?_)
    
    refine sim_again (k + 1, roomI r o.n) (by kernel_rfl) (by show n - (k + 1) < n - k; omega) (by kernel_rfl) (by kernel_rfl) (by kernel_rfl) (fun m hm => by simp at hm) (Rel.cast (by assumption) (by kernel_rfl)) (by kernel_rfl) (by kernel_rfl) ⟨hl1, by show k + 1 ≤ 200; omega, hext⟩
  · have hbad : r < 0 → ¬ 0 ≤ roomF os := fun hn => by
      have := roomF_neg (os.drop k) (r := r) hn
      unfold roomF
      rw [← List.take_append_drop k os, List.foldl_append]
      rw [hr] at this
      unfold roomF at this
      omega
    have hall : k = n → r = roomF os := fun e => by rw [hr, e, List.take_of_length_le (by omega)]
    have h1 : (n : Int) ≤ 100 → 0 ≤ r → lightB os = true := fun h1 h2 => by
      unfold lightB
      rw [hlen, ← hall (by omega), decide_eq_true h1, decide_eq_true h2]
      rfl
    have h0 : (n : Int) > 100 ∨ r < 0 → lightB os = false := fun h1 => by
      unfold lightB
      rcases h1 with h1 | h1
      · rw [hlen, decide_eq_false (by omega)]
        rfl
      · rw [decide_eq_false (hbad h1), Bool.and_false]
    refine sim_run 8 [] (hR2.cast (by kernel_rfl)) (by kernel_rfl) trivial (fun ρ500 w500 hm500 hR500 => ?_)
    refine sim_fork 9 (decide ((↑(k, r).fst : Int) < (↑n : Int))) (by kernel_rfl) (fun hq501 => ?_) (fun hq501 => ?_)
    have hq501 := of_decide_eq_true hq501
    refine sim_run 4 [] (hR500.cast (by kernel_rfl)) (by kernel_rfl) trivial (fun ρ502 w502 hm502 hR502 => ?_)
    refine sim_fork 13 (decide ((↑(k, r).fst : Int) < 200)) (by kernel_rfl) (fun hq503 => ?_) (fun hq503 => ?_)
    have hq503 := of_decide_eq_true hq503
    refine sim_run 4 [] (hR502.cast (by kernel_rfl)) (by kernel_rfl) trivial (fun ρ504 w504 hm504 hR504 => ?_)
    refine sim_know 16 (decide ((k, r).snd ≥ 0)) false (by kernel_rfl) (decide_eq_false (by omega)) ?_
    refine sim_run 1 [] (hR504.cast (by kernel_rfl)) (by kernel_rfl) trivial (fun ρ505 w505 hm505 hR505 => ?_)
    refine sim_leave (by kernel_rfl) ?_
    refine sim_run 6 [] (hR505.cast (by kernel_rfl)) (by kernel_rfl) trivial (fun ρ506 w506 hm506 hR506 => ?_)
    refine sim_fork 31 (decide ((↑n : Int) ≤ 100)) (by kernel_rfl) (fun hq507 => ?_) (fun hq507 => ?_)
    have hq507 := of_decide_eq_true hq507
    refine sim_run 5 [] (hR506.cast (by kernel_rfl)) (by kernel_rfl) trivial (fun ρ508 w508 hm508 hR508 => ?_)
    refine sim_ret (LB (decide ((k, r).snd ≥ 0))) hR508 (by kernel_rfl) (by kernel_rfl) ?_
    exact ⟨retv_bool (by clear hR508 hm508 hR506 hm506 hR505 hm505 hR504 hm504 hR502 hm502 hR500 hm500 hR2 hR; grind []), hR508.toBelow⟩
    have hq507 := of_decide_eq_false hq507
    refine sim_run 5 [] (hR506.cast (by kernel_rfl)) (by kernel_rfl) trivial (fun ρ509 w509 hm509 hR509 => ?_)
    refine sim_ret (LB false) hR509 (by kernel_rfl) (by kernel_rfl) ?_
    exact ⟨retv_bool (h0 (by omega)).symm, hR509.toBelow⟩
    have hq503 := of_decide_eq_false hq503
    refine sim_run 5 [] (hR502.cast (by kernel_rfl)) (by kernel_rfl) trivial (fun ρ510 w510 hm510 hR510 => ?_)
    refine sim_leave (by kernel_rfl) ?_
    refine sim_run 6 [] (hR510.cast (by kernel_rfl)) (by kernel_rfl) trivial (fun ρ511 w511 hm511 hR511 => ?_)
    refine sim_know 31 (decide ((↑n : Int) ≤ 100)) false (by kernel_rfl) (decide_eq_false (by omega)) ?_
    refine sim_run 5 [] (hR511.cast (by kernel_rfl)) (by kernel_rfl) trivial (fun ρ512 w512 hm512 hR512 => ?_)
    refine sim_ret (LB false) hR512 (by kernel_rfl) (by kernel_rfl) ?_
    exact ⟨retv_bool (h0 (by omega)).symm, hR512.toBelow⟩
    have hq501 := of_decide_eq_false hq501
    refine sim_run 9 [] (hR500.cast (by kernel_rfl)) (by kernel_rfl) trivial (fun ρ513 w513 hm513 hR513 => ?_)
    refine sim_leave (by kernel_rfl) ?_
    refine sim_run 6 [] (hR513.cast (by kernel_rfl)) (by kernel_rfl) trivial (fun ρ514 w514 hm514 hR514 => ?_)
    refine sim_fork 31 (decide ((↑n : Int) ≤ 100)) (by kernel_rfl) (fun hq515 => ?_) (fun hq515 => ?_)
    have hq515 := of_decide_eq_true hq515
    refine sim_run 5 [] (hR514.cast (by kernel_rfl)) (by kernel_rfl) trivial (fun ρ516 w516 hm516 hR516 => ?_)
    refine sim_ret (LB (decide ((k, r).snd ≥ 0))) hR516 (by kernel_rfl) (by kernel_rfl) ?_
    exact ⟨retv_bool (by clear hR516 hm516 hR514 hm514 hR513 hm513 hR500 hm500 hR2 hR; grind []), hR516.toBelow⟩
    have hq515 := of_decide_eq_false hq515
    refine sim_run 5 [] (hR514.cast (by kernel_rfl)) (by kernel_rfl) trivial (fun ρ517 w517 hm517 hR517 => ?_)
    refine sim_ret (LB false) hR517 (by kernel_rfl) (by kernel_rfl) ?_
    exact ⟨retv_bool (h0 (by omega)).symm, hR517.toBelow⟩
    
end Go.Proofs.Ytgbgedaedcofcaa
