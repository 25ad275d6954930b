/-
  link.numbers: the numbers of classes, rising.
-/
import Derived.Test.YtnfgndapalkbcaaGrFI
import Derived.Test.YtnfgndapalkbcaaShelf
import Derived.Sort.OwnSortedInts
namespace Go.Proofs.Ytnfgndapalkbcaa
open Go Go.RowKit
def leZ (x y : Int) : Bool := decide (x ≤ y)
/-- a row in its place, sorted -/
theorem sortI_any (base n cp : Nat) (A : Option Addr) (zs : List Int) (w : World) (h : w.ownsRow base 3 1 (.slice A n cp) n (ints zs)) (hl : zs.length = n) (hn : n ≤ 10000000) :
    Calls Try.prog 54 #[.slice A n cp] w fun e w' => e = .returned (.tuple #[]) ∧ w'.ownsRow base 3 1 (.slice A n cp) n (ints (zs.mergeSort leZ)) ∧ Kept (fun x => ∃ a, A = some a ∧ a.block = x) w w' := by
  rcases h.2 with ⟨h0, hn0⟩ | ⟨g, cap, cur, hv, hg, hb, hc, hm, hs, ht⟩
  · injection h0 with h1 h2 h3
    subst h1 h2 h3
    have hz : zs = [] := List.eq_nil_of_length_eq_zero hl
    subst hz
    refine (Try.slices_Sort_int_none none 0 w).mono ?_
    rintro e w' ⟨rfl, rfl⟩
    refine ⟨rfl, ?_, Kept.refl _ _⟩
    rw [List.mergeSort_nil]
    exact h
  · injection hv with h1 h2 h3
    subst h1 h3
    have ht2 : cur.toList.take zs.length = zs.map (Value.int .i64) := by rw [Nat.mul_one] at ht; rw [hl]; exact ht
    have hH := holds_of_blockI hb ht2
    have hgl : g < w.heap.size := by
      rcases Nat.lt_or_ge g w.heap.size with h | h
      · exact h
      · rw [Array.getElem?_eq_none h] at hb; cases hb
    have hlm : (zs.mergeSort leZ).length = zs.length := List.length_mergeSort ..
    subst hl
    refine (Try.slices_Sort_int g 0 cp zs w hH hgl (by omega)).mono ?_
    rintro e w' ⟨rfl, m, os, rfl⟩
    refine ⟨rfl, ?_, ?_⟩
    · have := ownsRow_sortedI (n := m) (os := os) hlm hg hb hc hm hs
      exact this
    · have hgr := grownBy_sortedI (n := m) (os := os) (w := w) (g := g) (zs.mergeSort leZ).toArray
      exact ⟨hgr.os, hgr.tape, hgr.output, hgr.size, fun k hk hne => hgr.block k hk (fun e => hne ⟨_, rfl, by injection e with e; exact e.symm⟩)⟩
/-- the classes of some heads, one behind the other -/
def catM (u : List Nat) (hs : List Nat) : List Nat := (hs.map (Uf.cls u)).flatten
theorem mem_cat {u hs : List Nat} (x : Nat) : x ∈ catM u hs ↔ (1 ≤ x ∧ x ≤ u.length) ∧ Uf.hd u x ∈ hs := by
  unfold catM
  rw [List.mem_flatten]
  constructor
  · rintro ⟨l, hl, hx⟩
    obtain ⟨h, hh, rfl⟩ := List.mem_map.1 hl
    have := Uf.mem_cls.1 hx
    exact ⟨this.1, this.2 ▸ hh⟩
  · rintro ⟨h1, h2⟩
    exact ⟨_, List.mem_map.2 ⟨_, h2, rfl⟩, Uf.mem_cls.2 ⟨h1, rfl⟩⟩
theorem cat_nodup {u : List Nat} : ∀ {hs : List Nat}, hs.Nodup → (catM u hs).Nodup
  | [], _ => List.nodup_nil
  | h :: hs, hn => by
    obtain ⟨h1, h2⟩ := List.nodup_cons.1 hn
    show (Uf.cls u h ++ catM u hs).Nodup
    rw [List.nodup_append]
    refine ⟨(Uf.cls_sorted u h).imp (fun h => Nat.ne_of_lt h), cat_nodup h2, fun a ha b hb e => ?_⟩
    subst e
    have k1 := (Uf.mem_cls.1 ha).2
    have k2 := ((mem_cat _).1 hb).2
    rw [k1] at k2
    exact h1 k2
theorem mem_nums {u hs : List Nat} {x : Nat} : x ∈ numsM u hs ↔ (1 ≤ x ∧ x ≤ u.length) ∧ Uf.hd u x ∈ hs := by
  unfold numsM
  rw [List.mem_filter, List.mem_range'_1, List.contains_iff_mem]
  constructor
  · rintro ⟨h1, h2⟩; exact ⟨by omega, h2⟩
  · rintro ⟨h1, h2⟩; exact ⟨by omega, h2⟩
theorem nums_sorted (u hs : List Nat) : (numsM u hs).Pairwise (· < ·) := by
  unfold numsM
  exact List.Pairwise.filter _ List.pairwise_lt_range'
theorem nums_congr {u hs hs' : List Nat} (h : ∀ x, x ∈ hs ↔ x ∈ hs') : numsM u hs = numsM u hs' := by
  unfold numsM
  refine List.filter_congr fun x _ => ?_
  rw [Bool.eq_iff_iff, List.contains_iff_mem, List.contains_iff_mem, h]
theorem sort_cat {u hs : List Nat} (hn : hs.Nodup) : ((catM u hs).map Int.ofNat).mergeSort leZ = (numsM u hs).map Int.ofNat := by
  have hp : ((catM u hs).map Int.ofNat).Perm ((numsM u hs).map Int.ofNat) := by
    refine List.Perm.map _ ?_
    refine (List.perm_ext_iff_of_nodup (cat_nodup hn) ((nums_sorted u hs).imp (fun h => Nat.ne_of_lt h))).2 fun x => ?_
    rw [mem_cat, mem_nums]
  have hs1 : (((catM u hs).map Int.ofNat).mergeSort leZ).Pairwise (fun a b => leZ a b = true) := List.pairwise_mergeSort (fun a b c h1 h2 => by unfold leZ at *; simp at *; omega) (fun a b => by unfold leZ; simp; omega) _
  have hs2 : ((numsM u hs).map Int.ofNat).Pairwise (fun a b => leZ a b = true) := by
    refine List.pairwise_map.2 ((nums_sorted u hs).imp fun h => ?_)
    unfold leZ
    simp
    omega
  refine List.Perm.eq_of_pairwise (le := fun a b => leZ a b = true) (fun a b _ _ h1 h2 => ?_) hs1 hs2 ((List.mergeSort_perm _ _).trans hp)
  unfold leZ at h1 h2
  simp at h1 h2
  omega
theorem nats_ofNat (l : List Nat) : ints (l.map Int.ofNat) = nats l := by
  unfold ints nats
  rw [List.map_map]
  rfl
theorem cat_len (u : List Nat) : ∀ hs : List Nat, (catM u hs).length ≤ hs.length * u.length
  | [] => by simp [catM]
  | h :: hs => by
    have ih := cat_len u hs
    show (Uf.cls u h ++ catM u hs).length ≤ _
    rw [List.length_append, List.length_cons, Nat.succ_mul]
    have : (Uf.cls u h).length ≤ u.length := by
      unfold Uf.cls
      exact Nat.le_trans (List.length_filter_le _ _) (by rw [List.length_range']; exact Nat.le_refl _)
    omega
theorem cat_snoc (u hs : List Nat) (h : Nat) : catM u (hs ++ [h]) = catM u hs ++ Uf.cls u h := by
  unfold catM
  rw [List.map_append, List.flatten_append]
  simp
theorem nats_one (l : List Nat) : ∀ v ∈ nats l, v.oneCell' = true := by
  intro v hv
  unfold nats at hv
  obtain ⟨x, _, rfl⟩ := List.mem_map.1 hv
  rfl
/-- a new row of numbers -/
def NatsN (w : World) (l : List Nat) (e : Ending) (w' : World) : Prop := ∃ A cap, e = .returned (.slice A l.length cap) ∧ w'.ownsRow w.heap.size 3 1 (.slice A l.length cap) l.length (nats l) ∧ Below w.heap.size w w'
theorem class_n {b g c : Nat} {A : Option Addr} {u : List Nat} {w : World} (i : Nat) (h : UfAt w b g u A c) (hg : Uf.Good u) (hu : u.length ≤ 1000) (hi : i ∈ Uf.heads u) : Calls Try.prog 15 #[.pointer (some ⟨b, 0, none⟩), .int .i64 (i : Int)] w (NatsN w (Uf.cls u i)) := by
  have h1 := Uf.mem_heads hi
  have h2 := Uf.hd_of_heads hi
  have := class_in b A c u i w h.rd h.lt.1 hg hu h1
  rw [h2] at this
  exact this.mono fun _ _ h => h
theorem nats_flat (hs : List Nat) : (hs.map fun (x : Nat) => [Value.int .i64 (x : Int)]).flatten = nats hs := by
  induction hs with
  | nil => rfl
  | cons x hs ih => rw [List.map_cons, List.flatten_cons, ih]; rfl
theorem own_natsI {w : World} {b n c : Nat} {A : Option Addr} {l : List Nat} (h : w.ownsRow b 3 1 (.slice A n c) n (nats l)) : w.ownsRow b 3 1 (.slice A n c) n (ints (l.map Int.ofNat)) := by rw [nats_ofNat]; exact h
attribute [local irreducible] run goO leaveK someK nextK nextT nextOT nextOD loopBody loopRest loopK fillJ tmplOf tmplJ mergeT At AtO drawOk ordOf gateOf callC callO topOp topO idxOf appOf storeOf clearOf sliceOf calleeOf calleeO topQ idxQ newRowOf resL stepOp seek
set_option maxRecDepth 100000 in
set_option maxHeartbeats 4000000 in
theorem numbers_any (q : GrP) (u : List Nat) (ls : List Lk) (A : Option Addr) (n cp B : Nat) (hs : List Nat) (w : World) (h : GrV q u ls w) (hgd : Uf.Good u) (hu : u.length ≤ 1000) (hr : Reads w B 1 A n (nats hs)) (hB : B ≤ w.heap.size) (hn : n ≤ 1000) (hin : ∀ h ∈ hs, h ∈ Uf.heads u) (hnd : hs.Nodup) :
    Calls Try.prog 31 #[.pointer (some ⟨q.b, 0, none⟩), .slice A n cp] w (NatsN w (numsM u hs)) := by
  have hll : hs.length = n := by have := hr.1; rw [nats_length] at this; omega
  obtain ⟨ρ, e0, hR⟩ := h.open_ false [] (by simp)
  have hsg := h.sta (ρ := ρ) (rs := [⟨(q.cells ls.length).map .v, false⟩]) (by kernel_rfl)
  refine sim_enter Try.func31 ρ [.ptr 0 0, .v (.slice A n cp)] [⟨(q.cells ls.length).map .v, false⟩] (by kernel_rfl) (by simp only [denL, LV.den, Nm.at_, e0]) ?_
  have hag := hR.ag_ 1 (by kernel_rfl)
  have hglt := h.lt
  refine sim_run 16 [] (hR.cast (by kernel_rfl)) (by kernel_rfl) trivial (fun ρ100 w100 hm100 hR100 => ?_)
  have hsg := hsg.moved (hm100.castL (by kernel_rfl))
  have hag := hag.moved (hm100.castL (by kernel_rfl))
  
  refine sim_loop (ι := Nat × Value) (T := []) (w0 := w) (0, nilRow) [0, 8, 9] (fun x => [(5, .v x.2), (10, LI x.1)]) (fun _ => [⟨(q.cells ls.length).map .v, false⟩]) (fun x w1 => x.1 ≤ n ∧ Sta q.has (GrV q u ls) ρ100 [⟨(q.cells ls.length).map .v, false⟩] w1 ∧ Own ρ100 [⟨(q.cells ls.length).map .v, false⟩] w1 w.heap.size 3 1 x.2 (catM u (hs.take x.1)).length (nats (catM u (hs.take x.1)))) (fun x => n - x.1) (by kernel_rfl) (by kernel_rfl) ((by assumption : Rel _ _ _ _ _).cast (by kernel_rfl)) ⟨Nat.zero_le _, hsg.castR (by kernel_rfl), ⟨World.ownsRow_nil _ _ _ _, fun g hg => by cases hg⟩⟩ ?_
  have e0 := (hag.at_ 0 (by omega)).trans e0
  iterate 8 (try clear hsg)
  iterate 8 (try clear hag)
  rintro ⟨k, v⟩ d w2 hR2 ⟨hk, hsg, hown⟩
  dsimp only at hk hsg hown
  have hag0 := hR2.ag_ 1 (by kernel_rfl)
  obtain ⟨Av, cv, hve⟩ := own_row hown.own
  subst hve
  have hcl := cat_len u (hs.take k)
  have hcl2 : (hs.take k).length * u.length ≤ 1000 * 1000 := Nat.mul_le_mul (by rw [List.length_take]; omega) hu
  by_cases hlt : k < n
  · obtain ⟨x, hx⟩ : ∃ x, hs[k]? = some x := ⟨_, List.getElem?_eq_getElem (by omega)⟩
    have hxh := hin x (List.mem_of_getElem? hx)
    have htk : catM u (hs.take (k + 1)) = catM u (hs.take k) ++ Uf.cls u x := by rw [List.take_add_one, hx]; exact cat_snoc _ _ _
    have hxl : (Uf.cls u x).length ≤ u.length := by
      unfold Uf.cls
      exact Nat.le_trans (List.length_filter_le _ _) (by rw [List.length_range']; exact Nat.le_refl _)
    refine sim_see [.int .i64 (x : Int)] k 1 (by kernel_rfl) (by rw [List.getElem?_map, hx]; rfl) (xss := hs.map fun (x : Nat) => [Value.int .i64 (x : Int)]) (by rw [nats_flat]; exact hr) (by intro y hy; obtain ⟨z, _, rfl⟩ := List.mem_map.1 hy; rfl) (by omega) hlt hB (by simp) hR2 (by kernel_rfl) (fun ga oa ρE eA hgT hgl hmE eE hRE => ?_)
    subst eA
    have hsg := hsg.moved hmE
    have hown := hown.moved hmE
    have e0 := (hmE.agree 0 (by show 0 < 1; omega)).trans e0
    have hag0 := hag0.moved hmE
    have hag := hRE.ag_ 2 (by kernel_rfl)
    refine sim_run 5 [] (hRE.cast (by kernel_rfl)) (by kernel_rfl) trivial (fun ρ200 w200 hm200 hR200 => ?_)
    have hsg := hsg.moved (hm200.castL (by kernel_rfl))
    have hown := hown.moved (hm200.castL (by kernel_rfl))
    have hag0 := hag0.moved (hm200.castL (by kernel_rfl))
    have hag := hag.moved (hm200.castL (by kernel_rfl))
    refine sim_know 11 (decide ((↑(k, Value.slice Av (catM u (List.take k hs)).length cv).fst : Int) < (↑n : Int))) true (by kernel_rfl) (decide_eq_true (by omega)) ?_
    refine sim_run 6 [] (hR200.cast (by kernel_rfl)) (by kernel_rfl) trivial (fun ρ201 w201 hm201 hR201 => ?_)
    have hsg := hsg.moved (hm201.castL (by kernel_rfl))
    have hown := hown.moved (hm201.castL (by kernel_rfl))
    have hag0 := hag0.moved (hm201.castL (by kernel_rfl))
    have hag := hag.moved (hm201.castL (by kernel_rfl))
    refine sim_place (.v (.slice (some ⟨ga, oa, none⟩) n cp)) n 1 k 1 0 (by kernel_rfl) (by omega) (by omega) rfl (by simp only [Nm.at_, hag.at_ 1 (by omega), eE, Nat.add_zero, Int.toNat_natCast, Nat.mul_one]) ?_
    refine sim_run 10 [] (hR201.cast (by kernel_rfl)) (by kernel_rfl) trivial (fun ρ203 w203 hm203 hR203 => ?_)
    have hsg := hsg.moved (hm203.castL (by kernel_rfl))
    have hown := hown.moved (hm203.castL (by kernel_rfl))
    have hag0 := hag0.moved (hm203.castL (by kernel_rfl))
    have hag := hag.moved (hm203.castL (by kernel_rfl))
    refine sim_call 15 [.v (Value.pointer (some (Addr.mk q.pb 0 none))), LI ((↑x : Int))] (by kernel_rfl) ?_
    refine Calls.mono (class_n _ hsg.is.uf (by assumption) (by assumption) (by assumption)) ?_
    rintro e204 w204 ⟨A3, c3, rfl, ho3, hb204⟩
    have hbs := (hR203).keeps.size
    have hown3 := Own.start (hR203) ho3
    have hR204 := (hR203).below hb204
    have hsg := hsg.below hb204
    have hown := hown.below hb204
    refine Back.of (.v (.slice A3 (Uf.cls u x).length c3)) hR204 rfl ?_
    
    have hgo : ∀ {rs : List Reg} {ρ1 : Nm}, Nat.beq rs.length 2 = true → ρ1 0 = (q.b, 0) → (ρ1 1).1 < w.heap.size → ∀ {b n : Nat} {v : Value} {xs : List Value} {w1 : World}, w1.ownsRow b 3 1 v n xs → w.heap.size ≤ b → ∀ g, v.ownBlock = some g → ∀ (k : Nat) (r : Reg), rs[k]? = some r → r.cells ≠ [] → (ρ1 k).1 ≠ g := fun {rs ρ1} hb1 he h1 {b n v xs w1} hw1 hwb g hg k r hk _ => by
      have h2 := (List.getElem?_eq_some_iff.1 hk).1
      have h3 := Nat.eq_of_beq_eq_true hb1
      have h4 := own_ge hw1 hg
      have h5 := hglt q.b (.inl rfl)
      have h6 : k = 0 ∨ k = 1 := by omega
      rcases h6 with rfl | rfl
      · rw [he]
        show q.b ≠ g
        omega
      · omega
    refine sim_appendR 31 (.slice Av (catM u (hs.take k)).length cv) A3 (Uf.cls u x).length c3 (by kernel_rfl) (by assumption : Rel _ _ _ _ _) int_ty hown.own (Reads.of_own hown3.own) (oneV (nats_one _)) (by unfold maxLen; omega) (by omega) ((by assumption : Rel _ _ _ _ _)).keeps.size (Nat.le_refl _) (hgo (by kernel_rfl) ((hag.at_ 0 (by omega)).trans e0) (by rw [hag.at_ 1 (by omega), eE]; exact hgl) hown.own (Nat.le_refl _)) (fun v' w6 g1 g2 g3 hR6 => ?_)
    have hsg := hsg.grown g2 (fun x hx e => by have := own_ge hown.own e; have := hglt x hx; omega)
    clear hown hown3
    have hown := Own.ro hR6 g1 (by kernel_rfl)
    refine sim_run 7 [⟨6, 0, LI (IntKind.i64.wrap ((↑(k, Value.slice Av (catM u (List.take k hs)).length cv).fst : Int) + 1)), LI ((↑(k, Value.slice Av (catM u (List.take k hs)).length cv).fst : Int) + 1)⟩] (hR6.cast (by kernel_rfl)) (by kernel_rfl) ⟨eqi (IntWalk.i64_in _ (by omega)), trivial⟩ (fun ρ400 w400 hm400 hR400 => ?_)
    have hag0 := hag0.moved (hm400.castL (by kernel_rfl))
    have hag := hag.moved (hm400.castL (by kernel_rfl))
    have hsg := hsg.moved (hm400.castL (by kernel_rfl))
    have hown := hown.moved (hm400.castL (by kernel_rfl))
    
    have ho9 := hown.own
    rw [← nats_append, ← htk, ← List.length_append, ← htk] at ho9
    exact sim_again (k + 1, v') (by kernel_rfl) (by show n - (k + 1) < n - k; omega) (by kernel_rfl) (by kernel_rfl) (by kernel_rfl) hag0.ag (Rel.cast (by assumption) (by kernel_rfl)) (by kernel_rfl) (by kernel_rfl) ⟨hlt, hsg.cut hag0 rfl (by kernel_rfl), (Own.ro (by assumption : Rel _ _ _ _ _) ho9 (by kernel_rfl)).cut hag0 rfl (by kernel_rfl)⟩
  · have hkn : k = n := by omega
    have htl : hs.take k = hs := by rw [hkn, ← hll]; exact List.take_length
    have hndk : (hs.take k).Nodup := hnd.sublist (List.take_sublist k hs)
    have hS0 : ∀ {rs : List Reg} {ρ1 : Nm}, Nat.beq rs.length 1 = true → ρ1 0 = (q.b, 0) → ∀ {w1 : World} {m : Nat} {xs : List Value}, w1.ownsRow w.heap.size 3 1 (.slice Av m cv) m xs → ∀ (n0 : Nat) (r : Reg), rs[n0]? = some r → r.cells ≠ [] → ¬ ∃ a, Av = some a ∧ a.block = (ρ1 n0).1 := fun {rs ρ1} hb1 he {w1 m xs} hw1 n0 r hk _ ⟨a, ha, hx⟩ => by
      have h2 := (List.getElem?_eq_some_iff.1 hk).1
      have h3 := Nat.eq_of_beq_eq_true hb1
      have h4 := own_ge hw1 (g := a.block) (by rw [ha]; rfl)
      have h5 := hglt q.b (.inl rfl)
      have h6 : n0 = 0 := by omega
      rw [h6, he] at hx
      have hx : a.block = q.b := hx
      omega
    have hT0 : ∀ {w1 : World} {m : Nat} {xs : List Value}, w1.ownsRow w.heap.size 3 1 (.slice Av m cv) m xs → ∀ x, (∃ a, Av = some a ∧ a.block = x) → x ∈ ([] : List Nat) ∨ w.heap.size ≤ x := fun {w1 m xs} hw1 x ⟨a, ha, hx⟩ => .inr (hx ▸ own_ge hw1 (g := a.block) (by rw [ha]; rfl))
    refine sim_run 5 [] (hR2.cast (by kernel_rfl)) (by kernel_rfl) trivial (fun ρ300 w300 hm300 hR300 => ?_)
    have hsg := hsg.moved (hm300.castL (by kernel_rfl))
    have hag0 := hag0.moved (hm300.castL (by kernel_rfl))
    have hown := hown.moved (hm300.castL (by kernel_rfl))
    refine sim_know 11 (decide ((↑(k, Value.slice Av (catM u (List.take k hs)).length cv).fst : Int) < (↑n : Int))) false (by kernel_rfl) (decide_eq_false (by omega)) ?_
    refine sim_run 1 [] (hR300.cast (by kernel_rfl)) (by kernel_rfl) trivial (fun ρ301 w301 hm301 hR301 => ?_)
    have hsg := hsg.moved (hm301.castL (by kernel_rfl))
    have hag0 := hag0.moved (hm301.castL (by kernel_rfl))
    have hown := hown.moved (hm301.castL (by kernel_rfl))
    refine sim_leave (by kernel_rfl) ?_
    refine sim_run 3 [] (hR301.cast (by kernel_rfl)) (by kernel_rfl) trivial (fun ρ302 w302 hm302 hR302 => ?_)
    have hsg := hsg.moved (hm302.castL (by kernel_rfl))
    have hag0 := hag0.moved (hm302.castL (by kernel_rfl))
    have hown := hown.moved (hm302.castL (by kernel_rfl))
    refine sim_call 54 [.v (Value.slice Av (catM u (List.take k hs)).length cv)] (by kernel_rfl) ?_
    refine Calls.mono (sortI_any (w.heap.size) ((catM u (hs.take k)).length) (cv) (Av) ((catM u (hs.take k)).map Int.ofNat) _ ((own_natsI hown.own)) ((List.length_map ..)) ((by omega))) ?_
    rw [sort_cat hndk, nats_ofNat]
    rintro e303 w303 ⟨rfl, ho303, hk303⟩
    have hR303 := (hR302).kept hk303 (hS0 (by kernel_rfl) ((hag0.at_ 0 (by omega)).trans e0) hown.own) (hT0 hown.own)
    have hown2 := Own.ro hR303 ho303 (by kernel_rfl)
    refine Back.of (.tup []) hR303 rfl ?_
    refine sim_run 6 [] (hR303.cast (by kernel_rfl)) (by kernel_rfl) trivial (fun ρ304 w304 hm304 hR304 => ?_)
    have hag0 := hag0.moved (hm304.castL (by kernel_rfl))
    have hown2 := hown2.moved (hm304.castL (by kernel_rfl))
    refine sim_ret (.v (Value.slice Av (catM u (List.take k hs)).length cv)) hR304 (by kernel_rfl) (by kernel_rfl) ?_
    
    have hz := hown2.own
    have hlen : (catM u (hs.take k)).length = (numsM u (hs.take k)).length := by
      have := congrArg List.length (sort_cat (u := u) hndk)
      rw [List.length_mergeSort, List.length_map, List.length_map] at this
      exact this
    rw [hlen, htl] at hz
    exact ⟨Av, cv, by rw [hlen, htl]; rfl, hz, (by assumption : Rel _ _ _ _ _).toBelow⟩
end Go.Proofs.Ytnfgndapalkbcaa
