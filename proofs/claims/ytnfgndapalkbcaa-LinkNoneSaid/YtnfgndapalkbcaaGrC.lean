/-
  link.heads: of each class which ones stand straight ahead of it.
-/
import Derived.Test.YtnfgndapalkbcaaGrB
import Derived.Test.YtnfgndapalkbcaaContI
namespace Go.Proofs.Ytnfgndapalkbcaa
open Go Go.RowKit
def encZ (z : Int) : Value := .int .i64 z
theorem kt_int : KT Try.prog 3 encZ := by
  refine ⟨fun a b w => ?_, fun d hd a b x h => ?_, ⟨_, Try.underlying3⟩, fun b a w => by kernel_rfl, fun a => ?_⟩
  · have h : (Op.equal 3 (encZ a) (encZ b)).run Try.prog w = .ok (a == b) w := by kernel_rfl
    rw [h]
    congr 1
  · rw [Try.underlying3] at hd
    injection hd with hd
    subst hd
    simp [Instr.sameNow, encZ] at h
    rw [← h]
    try rfl
  · unfold encZ
    simp [Instr.sameBits]
theorem mii_ty : Try.prog.underlying 65 = some (.map 3 31) := Try.underlying65
theorem zero_row (w : World) : (zeroValue 31).run Try.prog w = .ok nilRow w := by kernel_rfl
/-- the rows of the map -/
def aheadI (u : List Nat) (l : List Lk) (z : Int) : List Int := (Uf.aheadM u l z.toNat).map Int.ofNat
/-- the map of heads, in memory -/
structure HdM (u : List Nat) (l : List Lk) (m : List (Ent Int Value)) : Prop where
  none : ∀ z, look z m = none → aheadI u l z = []
  key : ∀ e ∈ m, ∃ t : Nat, e.key = t ∧ t ∈ Uf.heads u
theorem aheadI_len (u : List Nat) (l : List Lk) (z : Int) : (aheadI u l z).length = (Uf.aheadM u l z.toNat).length := by unfold aheadI; rw [List.length_map]
theorem foldA_len (u : List Nat) (t : Nat) : ∀ (l : List Lk) (acc : List Nat), (l.foldl (Uf.stepA u t) acc).length ≤ acc.length + l.length
  | [], acc => by simp
  | x :: l, acc => by
    rw [List.foldl_cons]
    have h := foldA_len u t l (Uf.stepA u t acc x)
    have h2 : (Uf.stepA u t acc x).length ≤ acc.length + 1 := by
      unfold Uf.stepA addN
      split
      · split
        · omega
        · simp
      · omega
    rw [List.length_cons]
    omega
theorem ahead_len (u : List Nat) (l : List Lk) (t : Nat) : (Uf.aheadM u l t).length ≤ l.length := by
  have := foldA_len u t l []
  simpa [Uf.aheadM] using this
theorem aheadI_other {u : List Nat} {l : List Lk} {x : Lk} {z : Int} (h : ¬ (x.kind = 2 ∧ Uf.hz u x.dst = z.toNat)) : aheadI u (l ++ [x]) z = aheadI u l z := by
  unfold aheadI
  rw [Uf.aheadM_snoc, Uf.stepA, if_neg h]
theorem aheadI_here {u : List Nat} {l : List Lk} {x : Lk} {z : Int} (h1 : x.kind = 2) (h2 : Uf.hz u x.dst = z.toNat) : aheadI u (l ++ [x]) z = if (aheadI u l z).contains (Uf.hz u x.src : Int) = true then aheadI u l z else aheadI u l z ++ [(Uf.hz u x.src : Int)] := by
  unfold aheadI
  rw [Uf.aheadM_snoc, Uf.stepA, if_pos ⟨h1, h2⟩, addN]
  have hc : ((Uf.aheadM u l z.toNat).map Int.ofNat).contains (Uf.hz u x.src : Int) = true ↔ Uf.hz u x.src ∈ Uf.aheadM u l z.toNat := by
    rw [List.contains_iff_mem, List.mem_map]
    constructor
    · rintro ⟨a, ha, he⟩
      have : a = Uf.hz u x.src := Int.ofNat.inj he
      rw [← this]
      exact ha
    · exact fun h => ⟨_, h, rfl⟩
  by_cases hm : Uf.hz u x.src ∈ Uf.aheadM u l z.toNat
  · rw [if_pos hm, if_pos (hc.2 hm)]
  · rw [if_neg hm, if_neg (fun h => hm (hc.1 h)), List.map_append]
    rfl
theorem aheadI_at {u : List Nat} {l : List Lk} {z : Int} {t : Nat} (h : z.toNat = t) : aheadI u l z = aheadI u l (t : Int) := by unfold aheadI; rw [h, Int.toNat_natCast]
theorem aheadI_seen {u : List Nat} {l : List Lk} {a q : Nat} (h : (aheadI u l (Uf.hd u q : Nat)).contains ((Uf.hd u a : Nat) : Int) = true) : aheadI u (l ++ [⟨2, (a : Int), (q : Int)⟩]) = aheadI u l := by
  funext z
  by_cases hz : Uf.hz u (q : Int) = z.toNat
  · rw [aheadI_here rfl hz, if_pos]
    rw [aheadI_at (t := Uf.hd u q) hz.symm]
    exact h
  · exact aheadI_other (fun h => hz h.2)
theorem aheadI_new {u : List Nat} {l : List Lk} {a q : Nat} (h : (aheadI u l (Uf.hd u q : Nat)).contains ((Uf.hd u a : Nat) : Int) = false) : aheadI u (l ++ [⟨2, (a : Int), (q : Int)⟩]) (Uf.hd u q : Nat) = aheadI u l (Uf.hd u q : Nat) ++ [((Uf.hd u a : Nat) : Int)] := by
  have e : Uf.hz u (q : Int) = ((Uf.hd u q : Nat) : Int).toNat := rfl
  rw [aheadI_here rfl e, if_neg]
  · rfl
  · intro h2
    have h3 : (aheadI u l (Uf.hd u q : Nat)).contains ((Uf.hd u a : Nat) : Int) = true := h2
    rw [h] at h3
    cases h3
theorem aheadI_ne {u : List Nat} {l : List Lk} {a q : Nat} (h1 : 1 ≤ Uf.hd u q) {z : Int} (hz : z ≠ (Uf.hd u q : Nat)) : aheadI u (l ++ [⟨2, (a : Int), (q : Int)⟩]) z = aheadI u l z :=
  aheadI_other (fun h => hz (by have h2 : Uf.hd u q = z.toNat := h.2; omega))
theorem ufHead_n {b g c : Nat} {A : Option Addr} {u : List Nat} {w : World} (i : Nat) (h : UfAt w b g u A c) (hg : Uf.Good u) (hu : u.length ≤ 1000) (hi : 1 ≤ i ∧ i ≤ u.length) : Calls Try.prog 30 #[.pointer (some ⟨b, 0, none⟩), .int .i64 (i : Int)] w fun e w' => e = .returned (.int .i64 (Uf.hd u i : Int)) ∧ Below w.heap.size w w' :=
  (ufHead_b (i : Int) h hg hu).mono fun _ _ h => ⟨by rw [← headI_nat hi]; exact h.1, h.2⟩
theorem hd_heads {u : List Nat} (g : Uf.Good u) {i : Nat} (h1 : 1 ≤ i) (h2 : i ≤ u.length) : Uf.hd u i ∈ Uf.heads u := by
  have hs := Uf.hd_spec g i h1 h2
  unfold Uf.heads
  rw [List.mem_filter, List.mem_range'_1]
  exact ⟨⟨hs.1, by omega⟩, decide_eq_true (Uf.hd_hd g h1 h2)⟩
theorem int_ty : RowTy Try.prog 31 3 1 8 := RowTy.of Try.underlying31 (by kernel_rfl) (by kernel_rfl)
theorem containsI_row (base : Nat) (v : Value) (l : List Int) (x : Int) (b0 : Bool) (w : World) (hO : w.ownsRow base 3 1 v l.length (ints l)) (hb0 : l.contains x = b0) (hl : l.length ≤ 100000) : Calls Try.prog 33 #[v, .int .i64 x] w fun e w2 => e = .returned (.bool b0) ∧ Below w.heap.size w w2 := by
  obtain ⟨Av, cv, hve⟩ := own_row hO
  rw [hve] at hO ⊢
  rw [← hb0]
  exact containsI_any Av _ cv w.heap.size _ _ w (Reads.of_own hO) (Nat.le_refl _) (by omega)
theorem noW0 {ρ : Nm} {g : Nat} (h : wrS ρ [] g) : False := by
  obtain ⟨n, r, hn, _⟩ := h
  simp at hn
/-- what lies where a map of heads is answered -/
def HeadsN (w : World) (u : List Nat) (l : List Lk) (e : Ending) (w' : World) : Prop :=
  ∃ gm m ck, e = .returned (.map (some gm)) ∧ w.heap.size ≤ gm ∧ MpO encZ id ρ0 [] w' (some gm) m ck ∧ Rws ρ0 [] w' w.heap.size m (aheadI u l) ∧ HdM u l m ∧ Below w.heap.size w w'
attribute [local irreducible] run goO leaveK someK nextK nextT nextOT nextOD loopBody loopRest loopK fillJ tmplOf tmplJ mergeT At AtO drawOk ordOf gateOf callC callO topOp topO idxOf appOf storeOf clearOf sliceOf calleeOf calleeO topQ idxQ newRowOf resL stepOp seek
set_option maxRecDepth 100000 in
set_option maxHeartbeats 4000000 in
theorem heads_any (b g c : Nat) (Au : Option Addr) (u : List Nat) (A : Option Addr) (n cp B : Nat) (l : List Lk) (w : World) (h : UfAt w b g u Au c) (hg : Uf.Good u) (hu : u.length ≤ 1000) (hl : Reads w B 3 A n (lkV l)) (hB : B ≤ w.heap.size) (hn : n ≤ 100000) (hin : Uf.InL u.length l) :
    Calls Try.prog 32 #[.pointer (some ⟨b, 0, none⟩), .slice A n cp] w (HeadsN w u l) := by
  have hll := lkV_num hl
  have hR := Rel.start [] w ρ0
  have hj : Sta (ufS b g) (UfW b g u Au c) ρ0 [] w := Sta.ro_ h (by kernel_rfl) (fun x hx => hx.elim (fun e => e ▸ h.lt.1) (fun e => e ▸ h.lt.2)) UfW.same
  refine sim_enter Try.func32 ρ0 [.v (.pointer (some ⟨b, 0, none⟩)), .v (.slice A n cp)] [] (by kernel_rfl) rfl ?_
  refine sim_run 6 [] (hR.cast (by kernel_rfl)) (by kernel_rfl) trivial (fun ρ100 w100 hm100 hR100 => ?_)
  have hj := hj.moved (hm100.castL (by kernel_rfl))
  refine sim_make encZ id (t := 65) (by kernel_rfl) hR100 (fun w101 gm eg hb101 hM hR101 => ?_)
  have hj := hj.below hb101
  refine sim_run 10 [] (hR101.cast (by kernel_rfl)) (by kernel_rfl) trivial (fun ρ102 w102 hm102 hR102 => ?_)
  have hM := hM.moved (hm102.castL (by kernel_rfl))
  have hj := hj.moved (hm102.castL (by kernel_rfl))
  
  refine sim_loop (ι := Nat × List (Ent Int Value) × Nat) (T := []) (w0 := w) (0, [], 0) [0, 5, 11, 12] (fun x => [(13, LI x.1)]) (fun _ => []) (fun x w1 => x.1 ≤ n ∧ Sta (ufS b g) (UfW b g u Au c) ρ102 [] w1 ∧ MpO encZ id ρ102 [] w1 (some gm) x.2.1 x.2.2 ∧ Rws ρ102 [] w1 w.heap.size x.2.1 (aheadI u (l.take x.1)) ∧ HdM u (l.take x.1) x.2.1) (fun x => n - x.1) (by kernel_rfl) (by kernel_rfl) (hR102.cast (by kernel_rfl)) ⟨Nat.zero_le _, hj.castR (by kernel_rfl), hM.castR (by kernel_rfl), Rws.nil, fun _ _ => rfl, fun _ h => absurd h List.not_mem_nil⟩ ?_
  have hgm : w.heap.size ≤ gm := by rw [eg]; exact hR100.keeps.size
  iterate 6 (try clear hM)
  iterate 6 (try clear hj)
  clear hR102 hm102
  rintro ⟨i, m, ck⟩ d w2 hR2 ⟨hi, hj, hM, hrw, hH⟩
  dsimp only at hi hj hM hrw hH
  have hag0 := hR2.ag_ 0 (by kernel_rfl)
  by_cases hlt : i < n
  · obtain ⟨x, hx⟩ : ∃ x, l[i]? = some x := ⟨_, List.getElem?_eq_getElem (by omega)⟩
    have hxi := hin x (List.mem_of_getElem? hx)
    obtain ⟨kd, a, q, rfl⟩ : ∃ (kd : Int) (a q : Nat), x = ⟨kd, (a : Int), (q : Int)⟩ := ⟨x.kind, x.src.toNat, x.dst.toNat, by rw [Int.toNat_of_nonneg (by omega), Int.toNat_of_nonneg (by omega)]⟩
    have ha : 1 ≤ a ∧ a ≤ u.length := by have := hxi.1; dsimp only at this; omega
    have hq : 1 ≤ q ∧ q ≤ u.length := by have := hxi.2; dsimp only at this; omega
    have htk : l.take (i + 1) = l.take i ++ [⟨kd, (a : Int), (q : Int)⟩] := by rw [List.take_add_one, hx]; rfl
    refine sim_see (Lk.cells ⟨kd, (a : Int), (q : Int)⟩) i 0 (by kernel_rfl) (by rw [List.getElem?_map, hx]; rfl) hl (lk_in l) (by omega) hlt hB (by simp) hR2 (by kernel_rfl) (fun ga oa ρE eA hgT hgl hmE eE hRE => ?_)
    subst eA
    have hj := hj.moved hmE
    have hM := hM.moved hmE
    have hrw := hrw.moved hmE
    have hag0 := hag0.moved hmE
    have hag := hRE.ag_ 1 (by kernel_rfl)
    by_cases hk : kd = 2
    · subst hk
      have hhq := hd_heads hg hq.1 hq.2
      have hrow := hrw.at_ (hH.none (Uf.hd u q : Nat))
      have hqb := Uf.hd_spec hg q hq.1 hq.2
      have hlen1 : (aheadI u (l.take i) (Uf.hd u q : Nat)).length ≤ n := by rw [aheadI_len]; have := ahead_len u (l.take i) ((Uf.hd u q : Nat) : Int).toNat; rw [List.length_take] at this; omega
      generalize hv : (look ((Uf.hd u q : Nat) : Int) m).getD nilRow = v at hrow
      generalize hb0 : (aheadI u (l.take i) (Uf.hd u q : Nat)).contains ((Uf.hd u a : Nat) : Int) = b0
      cases b0 with
      | true =>
        refine sim_run 5 [] (hRE.cast (by kernel_rfl)) (by kernel_rfl) trivial (fun ρ200 w200 hm200 hR200 => ?_)
        have hj := hj.moved (hm200.castL (by kernel_rfl))
        have hM := hM.moved (hm200.castL (by kernel_rfl))
        have hrw := hrw.moved (hm200.castL (by kernel_rfl))
        have hag0 := hag0.moved (hm200.castL (by kernel_rfl))
        have hag := hag.moved (hm200.castL (by kernel_rfl))
        have hrow := hrow.moved (hm200.castL (by kernel_rfl))
        refine sim_know 14 (decide ((↑(i, m, ck).fst : Int) < (↑n : Int))) true (by kernel_rfl) (decide_eq_true (by omega)) ?_
        refine sim_run 6 [] (hR200.cast (by kernel_rfl)) (by kernel_rfl) trivial (fun ρ201 w201 hm201 hR201 => ?_)
        have hj := hj.moved (hm201.castL (by kernel_rfl))
        have hM := hM.moved (hm201.castL (by kernel_rfl))
        have hrw := hrw.moved (hm201.castL (by kernel_rfl))
        have hag0 := hag0.moved (hm201.castL (by kernel_rfl))
        have hag := hag.moved (hm201.castL (by kernel_rfl))
        have hrow := hrow.moved (hm201.castL (by kernel_rfl))
        refine sim_place (.v (.slice (some ⟨ga, oa, none⟩) n cp)) n 3 i 0 0 (by kernel_rfl) (by omega) (by omega) rfl (by simp only [Nm.at_, hag.at_ 0 (by omega), eE, Nat.add_zero, Int.toNat_natCast]) ?_
        refine sim_run 14 [] (hR201.cast (by kernel_rfl)) (by kernel_rfl) trivial (fun ρ203 w203 hm203 hR203 => ?_)
        have hj := hj.moved (hm203.castL (by kernel_rfl))
        have hM := hM.moved (hm203.castL (by kernel_rfl))
        have hrw := hrw.moved (hm203.castL (by kernel_rfl))
        have hag0 := hag0.moved (hm203.castL (by kernel_rfl))
        have hag := hag.moved (hm203.castL (by kernel_rfl))
        have hrow := hrow.moved (hm203.castL (by kernel_rfl))
        refine sim_draw [] (by kernel_rfl) (by kernel_rfl) hR203 (fun hR204 => ?_)
        have hj := hj.drew
        have hM := hM.drew
        have hrw := hrw.drew
        have hrow := hrow.drew
        refine sim_ordN 6 [] hR204 (by kernel_rfl) trivial (fun ρ205 w205 hm205 hR205 => ?_)
        have hag0 := hag0.moved (hm205.castL (by kernel_rfl))
        have hag := hag.moved (hm205.castL (by kernel_rfl))
        have hj := hj.moved (hm205.castL (by kernel_rfl))
        have hM := hM.moved (hm205.castL (by kernel_rfl))
        have hrw := hrw.moved (hm205.castL (by kernel_rfl))
        have hrow := hrow.moved (hm205.castL (by kernel_rfl))
        refine sim_ord_call (T := []) (w0 := w) 30 [.v (Value.pointer (some (Addr.mk b 0 none))), LI ((Lk.mk 2 (↑a : Int) (↑q : Int)).src)] (by kernel_rfl) ?_
        refine Calls.mono (ufHead_n _ hj.is (by assumption) (by assumption) (by assumption)) ?_
        rintro e206 w206 ⟨rfl, hb206⟩
        have hR206 := hR205.call hb206 (LI ((↑(Uf.hd u a) : Int)))
        have hj := hj.below hb206
        have hM := hM.below hb206
        have hrw := hrw.below hb206
        have hrow := hrow.below hb206
        refine BackO.of (LI ((↑(Uf.hd u a) : Int))) hR206 rfl ?_
        refine sim_ord_call (T := []) (w0 := w) 30 [.v (Value.pointer (some (Addr.mk b 0 none))), LI ((Lk.mk 2 (↑a : Int) (↑q : Int)).dst)] (by kernel_rfl) ?_
        refine Calls.mono (ufHead_n _ hj.is (by assumption) (by assumption) (by assumption)) ?_
        rintro e207 w207 ⟨rfl, hb207⟩
        have hR207 := hR206.call hb207 (LI ((↑(Uf.hd u q) : Int)))
        have hj := hj.below hb207
        have hM := hM.below hb207
        have hrw := hrw.below hb207
        have hrow := hrow.below hb207
        refine BackO.of (LI ((↑(Uf.hd u q) : Int))) hR207 rfl ?_
        refine sim_ordN 2 [] hR207 (by kernel_rfl) trivial (fun ρ208 w208 hm208 hR208 => ?_)
        have hag0 := hag0.moved (hm208.castL (by kernel_rfl))
        have hag := hag.moved (hm208.castL (by kernel_rfl))
        have hj := hj.moved (hm208.castL (by kernel_rfl))
        have hM := hM.moved (hm208.castL (by kernel_rfl))
        have hrw := hrw.moved (hm208.castL (by kernel_rfl))
        have hrow := hrow.moved (hm208.castL (by kernel_rfl))
        refine sim_ord_endR hR208 (by kernel_rfl) (fun hR209 => ?_)
        refine sim_run 4 [] (hR209.cast (by kernel_rfl)) (by kernel_rfl) trivial (fun ρ210 w210 hm210 hR210 => ?_)
        have hag0 := hag0.moved (hm210.castL (by kernel_rfl))
        have hag := hag.moved (hm210.castL (by kernel_rfl))
        have hj := hj.moved (hm210.castL (by kernel_rfl))
        have hM := hM.moved (hm210.castL (by kernel_rfl))
        have hrw := hrw.moved (hm210.castL (by kernel_rfl))
        have hrow := hrow.moved (hm210.castL (by kernel_rfl))
        refine sim_look (enc := encZ) (encV := id) (mx := .v (Value.map (some gm))) (kx := LI ((↑(Uf.hd u q) : Int))) (ok := false) ((Uf.hd u q : Nat) : Int) (.v v) (by kernel_rfl) mii_ty kt_int zero_row hM rfl rfl (by show v = _; exact hv.symm) ?_
        refine sim_run 1 [] (hR210.cast (by kernel_rfl)) (by kernel_rfl) trivial (fun ρ212 w212 hm212 hR212 => ?_)
        have hag0 := hag0.moved (hm212.castL (by kernel_rfl))
        have hag := hag.moved (hm212.castL (by kernel_rfl))
        have hj := hj.moved (hm212.castL (by kernel_rfl))
        have hM := hM.moved (hm212.castL (by kernel_rfl))
        have hrw := hrw.moved (hm212.castL (by kernel_rfl))
        have hrow := hrow.moved (hm212.castL (by kernel_rfl))
        refine sim_call 33 [.v v, LI ((↑(Uf.hd u a) : Int))] (by kernel_rfl) ?_
        refine Calls.mono (containsI_row (w.heap.size) (v) (aheadI u (l.take i) (Uf.hd u q : Nat)) ((Uf.hd u a : Nat)) _ _ (hrow.own) (hb0) ((by omega))) ?_
        rintro e213 w213 ⟨rfl, hb213⟩
        have hR213 := hR212.below hb213
        have hj := hj.below hb213
        have hM := hM.below hb213
        have hrw := hrw.below hb213
        have hrow := hrow.below hb213
        refine Back.of (LB true) hR213 rfl ?_
        refine sim_run 9 [⟨9, 0, LI (IntKind.i64.wrap ((↑(i, m, ck).fst : Int) + 1)), LI ((↑(i, m, ck).fst : Int) + 1)⟩] (hR213.cast (by kernel_rfl)) (by kernel_rfl) ⟨eqi (IntWalk.i64_in _ (by omega)), trivial⟩ (fun ρ214 w214 hm214 hR214 => ?_)
        have hag0 := hag0.moved (hm214.castL (by kernel_rfl))
        have hag := hag.moved (hm214.castL (by kernel_rfl))
        have hj := hj.moved (hm214.castL (by kernel_rfl))
        have hM := hM.moved (hm214.castL (by kernel_rfl))
        have hrw := hrw.moved (hm214.castL (by kernel_rfl))
        have hrow := hrow.moved (hm214.castL (by kernel_rfl))
        
        have hsame : aheadI u (l.take (i + 1)) = aheadI u (l.take i) := by rw [htk]; exact aheadI_seen hb0
        exact sim_again (i + 1, m, ck) (by kernel_rfl) (by show n - (i + 1) < n - i; omega) (by kernel_rfl) (by kernel_rfl) (by kernel_rfl) Agree.zero (Rel.cast (by assumption) (by kernel_rfl)) (by kernel_rfl) (by kernel_rfl) ⟨hlt, hj.cut hag0 rfl (by kernel_rfl), hM.cut hag0 rfl (by kernel_rfl), by dsimp only; rw [hsame]; exact hrw.cut hag0 rfl (by kernel_rfl), fun z hz => by dsimp only at hz ⊢; rw [hsame]; exact hH.none z hz, hH.key⟩
      | false =>
        refine sim_run 5 [] (hRE.cast (by kernel_rfl)) (by kernel_rfl) trivial (fun ρ500 w500 hm500 hR500 => ?_)
        have hj := hj.moved (hm500.castL (by kernel_rfl))
        have hM := hM.moved (hm500.castL (by kernel_rfl))
        have hrw := hrw.moved (hm500.castL (by kernel_rfl))
        have hag0 := hag0.moved (hm500.castL (by kernel_rfl))
        have hag := hag.moved (hm500.castL (by kernel_rfl))
        have hrow := hrow.moved (hm500.castL (by kernel_rfl))
        refine sim_know 14 (decide ((↑(i, m, ck).fst : Int) < (↑n : Int))) true (by kernel_rfl) (decide_eq_true (by omega)) ?_
        refine sim_run 6 [] (hR500.cast (by kernel_rfl)) (by kernel_rfl) trivial (fun ρ501 w501 hm501 hR501 => ?_)
        have hj := hj.moved (hm501.castL (by kernel_rfl))
        have hM := hM.moved (hm501.castL (by kernel_rfl))
        have hrw := hrw.moved (hm501.castL (by kernel_rfl))
        have hag0 := hag0.moved (hm501.castL (by kernel_rfl))
        have hag := hag.moved (hm501.castL (by kernel_rfl))
        have hrow := hrow.moved (hm501.castL (by kernel_rfl))
        refine sim_place (.v (.slice (some ⟨ga, oa, none⟩) n cp)) n 3 i 0 0 (by kernel_rfl) (by omega) (by omega) rfl (by simp only [Nm.at_, hag.at_ 0 (by omega), eE, Nat.add_zero, Int.toNat_natCast]) ?_
        refine sim_run 14 [] (hR501.cast (by kernel_rfl)) (by kernel_rfl) trivial (fun ρ503 w503 hm503 hR503 => ?_)
        have hj := hj.moved (hm503.castL (by kernel_rfl))
        have hM := hM.moved (hm503.castL (by kernel_rfl))
        have hrw := hrw.moved (hm503.castL (by kernel_rfl))
        have hag0 := hag0.moved (hm503.castL (by kernel_rfl))
        have hag := hag.moved (hm503.castL (by kernel_rfl))
        have hrow := hrow.moved (hm503.castL (by kernel_rfl))
        refine sim_draw [] (by kernel_rfl) (by kernel_rfl) hR503 (fun hR504 => ?_)
        have hj := hj.drew
        have hM := hM.drew
        have hrw := hrw.drew
        have hrow := hrow.drew
        refine sim_ordN 6 [] hR504 (by kernel_rfl) trivial (fun ρ505 w505 hm505 hR505 => ?_)
        have hag0 := hag0.moved (hm505.castL (by kernel_rfl))
        have hag := hag.moved (hm505.castL (by kernel_rfl))
        have hj := hj.moved (hm505.castL (by kernel_rfl))
        have hM := hM.moved (hm505.castL (by kernel_rfl))
        have hrw := hrw.moved (hm505.castL (by kernel_rfl))
        have hrow := hrow.moved (hm505.castL (by kernel_rfl))
        refine sim_ord_call (T := []) (w0 := w) 30 [.v (Value.pointer (some (Addr.mk b 0 none))), LI ((Lk.mk 2 (↑a : Int) (↑q : Int)).src)] (by kernel_rfl) ?_
        refine Calls.mono (ufHead_n _ hj.is (by assumption) (by assumption) (by assumption)) ?_
        rintro e506 w506 ⟨rfl, hb506⟩
        have hR506 := hR505.call hb506 (LI ((↑(Uf.hd u a) : Int)))
        have hj := hj.below hb506
        have hM := hM.below hb506
        have hrw := hrw.below hb506
        have hrow := hrow.below hb506
        refine BackO.of (LI ((↑(Uf.hd u a) : Int))) hR506 rfl ?_
        refine sim_ord_call (T := []) (w0 := w) 30 [.v (Value.pointer (some (Addr.mk b 0 none))), LI ((Lk.mk 2 (↑a : Int) (↑q : Int)).dst)] (by kernel_rfl) ?_
        refine Calls.mono (ufHead_n _ hj.is (by assumption) (by assumption) (by assumption)) ?_
        rintro e507 w507 ⟨rfl, hb507⟩
        have hR507 := hR506.call hb507 (LI ((↑(Uf.hd u q) : Int)))
        have hj := hj.below hb507
        have hM := hM.below hb507
        have hrw := hrw.below hb507
        have hrow := hrow.below hb507
        refine BackO.of (LI ((↑(Uf.hd u q) : Int))) hR507 rfl ?_
        refine sim_ordN 2 [] hR507 (by kernel_rfl) trivial (fun ρ508 w508 hm508 hR508 => ?_)
        have hag0 := hag0.moved (hm508.castL (by kernel_rfl))
        have hag := hag.moved (hm508.castL (by kernel_rfl))
        have hj := hj.moved (hm508.castL (by kernel_rfl))
        have hM := hM.moved (hm508.castL (by kernel_rfl))
        have hrw := hrw.moved (hm508.castL (by kernel_rfl))
        have hrow := hrow.moved (hm508.castL (by kernel_rfl))
        refine sim_ord_endR hR508 (by kernel_rfl) (fun hR509 => ?_)
        refine sim_run 4 [] (hR509.cast (by kernel_rfl)) (by kernel_rfl) trivial (fun ρ510 w510 hm510 hR510 => ?_)
        have hag0 := hag0.moved (hm510.castL (by kernel_rfl))
        have hag := hag.moved (hm510.castL (by kernel_rfl))
        have hj := hj.moved (hm510.castL (by kernel_rfl))
        have hM := hM.moved (hm510.castL (by kernel_rfl))
        have hrw := hrw.moved (hm510.castL (by kernel_rfl))
        have hrow := hrow.moved (hm510.castL (by kernel_rfl))
        refine sim_look (enc := encZ) (encV := id) (mx := .v (Value.map (some gm))) (kx := LI ((↑(Uf.hd u q) : Int))) (ok := false) ((Uf.hd u q : Nat) : Int) (.v v) (by kernel_rfl) mii_ty kt_int zero_row hM rfl rfl (by show v = _; exact hv.symm) ?_
        refine sim_run 1 [] (hR510.cast (by kernel_rfl)) (by kernel_rfl) trivial (fun ρ512 w512 hm512 hR512 => ?_)
        have hag0 := hag0.moved (hm512.castL (by kernel_rfl))
        have hag := hag.moved (hm512.castL (by kernel_rfl))
        have hj := hj.moved (hm512.castL (by kernel_rfl))
        have hM := hM.moved (hm512.castL (by kernel_rfl))
        have hrw := hrw.moved (hm512.castL (by kernel_rfl))
        have hrow := hrow.moved (hm512.castL (by kernel_rfl))
        refine sim_call 33 [.v v, LI ((↑(Uf.hd u a) : Int))] (by kernel_rfl) ?_
        refine Calls.mono (containsI_row (w.heap.size) (v) (aheadI u (l.take i) (Uf.hd u q : Nat)) ((Uf.hd u a : Nat)) _ _ (hrow.own) (hb0) ((by omega))) ?_
        rintro e513 w513 ⟨rfl, hb513⟩
        have hR513 := hR512.below hb513
        have hj := hj.below hb513
        have hM := hM.below hb513
        have hrw := hrw.below hb513
        have hrow := hrow.below hb513
        refine Back.of (LB false) hR513 rfl ?_
        refine sim_run 8 [] (hR513.cast (by kernel_rfl)) (by kernel_rfl) trivial (fun ρ514 w514 hm514 hR514 => ?_)
        have hag0 := hag0.moved (hm514.castL (by kernel_rfl))
        have hag := hag.moved (hm514.castL (by kernel_rfl))
        have hj := hj.moved (hm514.castL (by kernel_rfl))
        have hM := hM.moved (hm514.castL (by kernel_rfl))
        have hrw := hrw.moved (hm514.castL (by kernel_rfl))
        have hrow := hrow.moved (hm514.castL (by kernel_rfl))
        refine sim_look (enc := encZ) (encV := id) (mx := .v (Value.map (some gm))) (kx := LI ((↑(Uf.hd u q) : Int))) (ok := false) ((Uf.hd u q : Nat) : Int) (.v v) (by kernel_rfl) mii_ty kt_int zero_row hM rfl rfl (by show v = _; exact hv.symm) ?_
        refine sim_run 2 [] (hR514.cast (by kernel_rfl)) (by kernel_rfl) trivial (fun ρ516 w516 hm516 hR516 => ?_)
        have hag0 := hag0.moved (hm516.castL (by kernel_rfl))
        have hag := hag.moved (hm516.castL (by kernel_rfl))
        have hj := hj.moved (hm516.castL (by kernel_rfl))
        have hM := hM.moved (hm516.castL (by kernel_rfl))
        have hrw := hrw.moved (hm516.castL (by kernel_rfl))
        have hrow := hrow.moved (hm516.castL (by kernel_rfl))
        
        refine sim_appendP 31 v (.slc 2 0 1 1) (by kernel_rfl) (by assumption : Rel _ _ _ _ _) int_ty hrow 2 1 1 rfl [LI ((Uf.hd u a : Nat) : Int)] (by kernel_rfl) rfl (by kernel_rfl) (by unfold maxLen; omega) (by omega) ((by assumption : Rel _ _ _ _ _)).keeps.size (fun g' hg' => .inr (own_ge hrow.own hg')) [0] (by kernel_rfl) (fun k0 hk0 g' hg' => by
          simp only [List.mem_singleton] at hk0
          subst hk0
          rw [hag.at_ 0 (by omega), eE]
          have := own_ge hrow.own hg'
          show ga ≠ g'
          omega) (fun v' w4 hvo hgr hat hR4 => ?_)
        have hM := hM.grownO hrow.own hgr
        have hbl := h.lt
        have hj := hj.grown hgr (fun x hx e => by
          have := own_ge hrow.own e
          rcases hx with rfl | rfl
          · omega
          · omega)
        have hput := hrw.put (f' := aheadI u (l.take (i + 1))) hM.fine (k := ((Uf.hd u q : Nat) : Int)) (v' := v') (fun z hz => by rw [htk]; exact aheadI_ne hqb.1 hz) (by rw [hv]; exact hgr) (by rw [htk, aheadI_new hb0, List.length_append]; unfold ints at hvo ⊢; rw [List.map_append]; exact hvo) (by rw [hv]; exact hat.imp id (fun e => ⟨_, Nat.le_refl _, e⟩)) ck
        clear hrow hrw hvo
        have hmf := hM.fine
        refine sim_upd (enc := encZ) (encV := id) (mx := .v (Value.map (some gm))) (kx := LI ((↑(Uf.hd u q) : Int))) (vx := .v v') ((Uf.hd u q : Nat) : Int) v' (by kernel_rfl) mii_ty kt_int hM rfl rfl rfl (.inr hgm) hR4 (fun w600 ht600 hM2 hR600 => ?_)
        have hM := hM2
        clear hM2
        have hput := hput.turnM ht600
        have hj := hj.turnM ht600 (fun e => by rcases e with e | e <;> omega)
        refine sim_run 6 [⟨9, 0, LI (IntKind.i64.wrap ((↑(i, m, ck).fst : Int) + 1)), LI ((↑(i, m, ck).fst : Int) + 1)⟩] (hR600.cast (by kernel_rfl)) (by kernel_rfl) ⟨eqi (IntWalk.i64_in _ (by omega)), trivial⟩ (fun ρ601 w601 hm601 hR601 => ?_)
        have hag0 := hag0.moved (hm601.castL (by kernel_rfl))
        have hag := hag.moved (hm601.castL (by kernel_rfl))
        have hM := hM.moved (hm601.castL (by kernel_rfl))
        have hput := hput.moved (hm601.castL (by kernel_rfl))
        have hj := hj.moved (hm601.castL (by kernel_rfl))
        
        exact sim_again (i + 1, ins ((Uf.hd u q : Nat) : Int) v' ck m, clockAfter ((Uf.hd u q : Nat) : Int) m ck) (by kernel_rfl) (by show n - (i + 1) < n - i; omega) (by kernel_rfl) (by kernel_rfl) (by kernel_rfl) Agree.zero (Rel.cast (by assumption) (by kernel_rfl)) (by kernel_rfl) (by kernel_rfl) ⟨hlt, hj.cut hag0 rfl (by kernel_rfl), hM.cut hag0 rfl (by kernel_rfl), hput.cut hag0 rfl (by kernel_rfl), fun z hz => by
          dsimp only at hz ⊢
          rw [look_ins] at hz
          split at hz
          · cases hz
          · rename_i hne
            rw [htk, aheadI_ne hqb.1 hne]
            exact hH.none z hz, fun e he => by
          rcases ins_mem2 hmf.keys he with ⟨h1, _⟩ | ⟨h1, _⟩
          · exact hH.key e h1
          · exact ⟨_, h1, hhq⟩⟩
    · refine sim_run 5 [] (hRE.cast (by kernel_rfl)) (by kernel_rfl) trivial (fun ρ300 w300 hm300 hR300 => ?_)
      have hj := hj.moved (hm300.castL (by kernel_rfl))
      have hM := hM.moved (hm300.castL (by kernel_rfl))
      have hrw := hrw.moved (hm300.castL (by kernel_rfl))
      have hag0 := hag0.moved (hm300.castL (by kernel_rfl))
      have hag := hag.moved (hm300.castL (by kernel_rfl))
      refine sim_know 14 (decide ((↑(i, m, ck).fst : Int) < (↑n : Int))) true (by kernel_rfl) (decide_eq_true (by omega)) ?_
      refine sim_run 6 [] (hR300.cast (by kernel_rfl)) (by kernel_rfl) trivial (fun ρ301 w301 hm301 hR301 => ?_)
      have hj := hj.moved (hm301.castL (by kernel_rfl))
      have hM := hM.moved (hm301.castL (by kernel_rfl))
      have hrw := hrw.moved (hm301.castL (by kernel_rfl))
      have hag0 := hag0.moved (hm301.castL (by kernel_rfl))
      have hag := hag.moved (hm301.castL (by kernel_rfl))
      refine sim_place (.v (.slice (some ⟨ga, oa, none⟩) n cp)) n 3 i 0 0 (by kernel_rfl) (by omega) (by omega) rfl (by simp only [Nm.at_, hag.at_ 0 (by omega), eE, Nat.add_zero, Int.toNat_natCast]) ?_
      refine sim_run 11 [] (hR301.cast (by kernel_rfl)) (by kernel_rfl) trivial (fun ρ303 w303 hm303 hR303 => ?_)
      have hj := hj.moved (hm303.castL (by kernel_rfl))
      have hM := hM.moved (hm303.castL (by kernel_rfl))
      have hrw := hrw.moved (hm303.castL (by kernel_rfl))
      have hag0 := hag0.moved (hm303.castL (by kernel_rfl))
      have hag := hag.moved (hm303.castL (by kernel_rfl))
      refine sim_know 19 ((Lk.mk kd (↑a : Int) (↑q : Int)).kind != 2) true (by kernel_rfl) (bne_iff_ne.2 hk) ?_
      refine sim_run 6 [⟨9, 0, LI (IntKind.i64.wrap ((↑(i, m, ck).fst : Int) + 1)), LI ((↑(i, m, ck).fst : Int) + 1)⟩] (hR303.cast (by kernel_rfl)) (by kernel_rfl) ⟨eqi (IntWalk.i64_in _ (by omega)), trivial⟩ (fun ρ304 w304 hm304 hR304 => ?_)
      have hj := hj.moved (hm304.castL (by kernel_rfl))
      have hM := hM.moved (hm304.castL (by kernel_rfl))
      have hrw := hrw.moved (hm304.castL (by kernel_rfl))
      have hag0 := hag0.moved (hm304.castL (by kernel_rfl))
      have hag := hag.moved (hm304.castL (by kernel_rfl))
      
      have hsame : aheadI u (l.take (i + 1)) = aheadI u (l.take i) := funext fun z => by rw [htk]; exact aheadI_other (fun h => hk h.1)
      exact sim_again (i + 1, m, ck) (by kernel_rfl) (by show n - (i + 1) < n - i; omega) (by kernel_rfl) (by kernel_rfl) (by kernel_rfl) Agree.zero (Rel.cast (by assumption) (by kernel_rfl)) (by kernel_rfl) (by kernel_rfl) ⟨hlt, hj.cut hag0 rfl (by kernel_rfl), hM.cut hag0 rfl (by kernel_rfl), by dsimp only; rw [hsame]; exact hrw.cut hag0 rfl (by kernel_rfl), fun z hz => by dsimp only at hz ⊢; rw [hsame]; exact hH.none z hz, hH.key⟩
  · refine sim_run 5 [] (hR2.cast (by kernel_rfl)) (by kernel_rfl) trivial (fun ρ400 w400 hm400 hR400 => ?_)
    have hj := hj.moved (hm400.castL (by kernel_rfl))
    have hM := hM.moved (hm400.castL (by kernel_rfl))
    have hrw := hrw.moved (hm400.castL (by kernel_rfl))
    have hag0 := hag0.moved (hm400.castL (by kernel_rfl))
    refine sim_know 14 (decide ((↑(i, m, ck).fst : Int) < (↑n : Int))) false (by kernel_rfl) (decide_eq_false (by omega)) ?_
    refine sim_run 1 [] (hR400.cast (by kernel_rfl)) (by kernel_rfl) trivial (fun ρ401 w401 hm401 hR401 => ?_)
    have hj := hj.moved (hm401.castL (by kernel_rfl))
    have hM := hM.moved (hm401.castL (by kernel_rfl))
    have hrw := hrw.moved (hm401.castL (by kernel_rfl))
    have hag0 := hag0.moved (hm401.castL (by kernel_rfl))
    refine sim_leave (by kernel_rfl) ?_
    refine sim_run 5 [] (hR401.cast (by kernel_rfl)) (by kernel_rfl) trivial (fun ρ402 w402 hm402 hR402 => ?_)
    have hj := hj.moved (hm402.castL (by kernel_rfl))
    have hM := hM.moved (hm402.castL (by kernel_rfl))
    have hrw := hrw.moved (hm402.castL (by kernel_rfl))
    have hag0 := hag0.moved (hm402.castL (by kernel_rfl))
    refine sim_ret (.v (Value.map (some gm))) hR402 (by kernel_rfl) (by kernel_rfl) ?_
    
    obtain rfl : i = n := by omega
    rw [show l.take i = l from by rw [← hll]; exact List.take_length] at hrw hH
    exact ⟨gm, m, ck, rfl, hgm, ⟨fun g0 h0 => ⟨(hM.is g0 h0).1, fun h => noW0 h⟩, hM.nil⟩, hrw.cut ⟨Agree.zero, Nat.zero_le _⟩ rfl (by kernel_rfl), hH, (by assumption : Rel _ _ _ _ _).toBelow⟩
end Go.Proofs.Ytnfgndapalkbcaa
