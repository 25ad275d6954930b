/-
  The box of lists: the kept rows of ints grow (growInts).
-/
import Derived.Test.YtedfbdeklepekaaGreatBkI5
namespace Go.Proofs.YtedfbdeklepekaaGreat
open Go Go.RowKit
section
variable {P : Program} {Q : Exit → Act → World → Prop} {T : List Nat} {w0 w : World} {ρ : Nm} {c : Cfg}
/-- a row of one's own grows by a row that is read; the old one stands -/
theorem sim_appendKO (t : TypeId) (v : Value) (A : Option Addr) (m cp : Nat) (h : appOf c = some (t, .v v, .v (.slice A m cp))) (hR : Rel T w0 ρ c.rs w) {base : Nat} {e : TypeId} {size bytes : Nat} (hty : RowTy P t e size bytes)
    {n : Nat} {xs news : List Value} (hown : Own ρ c.rs w base e size v n xs) {B : Nat} (hr : Reads w B size A m news) (h1 : (news.map LV.v).all oneL = true)
    (h63 : n + m ≤ maxLen) (hbytes : (n + m) * bytes ≤ 140737488355328) (hbase : base ≤ w.heap.size) (hw0 : ∀ g, v.ownBlock = some g → g ∈ T ∨ w0.heap.size ≤ g) (l : List Nat) (hro : roIdx c.rs 0 = l) (hidx : ∀ k ∈ l, ∀ g, v.ownBlock = some g → (ρ k).1 ≠ g)
    (next : ∀ v' w', Own ρ c.rs w' base e size v' (n + m) (xs ++ news) → w.grownBy w' v.ownBlock → (v'.ownBlock = v.ownBlock ∨ v'.ownBlock = some w.heap.size) → w'.ownsRow base e size v n xs → Rel T w0 ρ c.rs w' → At P Q (nextC c (.v v') c.rs) ρ w') : At P Q c ρ w :=
  sim_appendRK t v A m cp h hR hty hown.own hr h1 h63 hbytes hbase hw0 (fun g hg k r' hk hne he => by
    cases hw : r'.wr with
    | true => exact hown.far g hg ⟨k, r', hk, hw, he⟩
    | false =>
      have := roIdx_mem c.rs 0 k r' hk hw hne
      rw [hro, Nat.zero_add] at this
      exact hidx k this g hg he) (fun v' w' g1 g2 g3 g4 g5 => next v' w' ⟨g1, fun g hg hw => by
    rcases g3 with e' | e'
    · exact hown.far g (e' ▸ hg) hw
    · rw [e'] at hg
      injection hg with hg
      have := hR.wr_lt hw
      omega⟩ g2 g3 g4 g5)
end
/-- apart from what else stands -/
structure GrowL (rows G : List BRow) (i : Nat) (l : Value) (n0 : Nat) : Prop where
  old : ∀ g, l.ownBlock = some g → g ∈ rowT rows ∨ n0 ≤ g
  out : ∀ a ∈ G, ∀ g, l.ownBlock = some g → a.v.ownBlock ≠ some g
  rows : ∀ (j : Nat) (r : BRow), j ≠ i → rows[j]? = some r → ∀ g, l.ownBlock = some g → r.v.ownBlock ≠ some g
structure GrowG (rows G : List BRow) (i : Nat) : Prop where
  len : G.length = i
  mkd : Mkd G
  rows : ∀ a ∈ G, ∀ (j : Nat) (r : BRow), i ≤ j → rows[j]? = some r → ∀ g, r.v.ownBlock = some g → a.v.ownBlock ≠ some g
theorem GrowG.start (rows : List BRow) : GrowG rows [] 0 := ⟨rfl, fun i r h => by simp at h, fun a h => by simp at h⟩
section
variable {rows G : List BRow} {i n0 : Nat} {B : Nat} {et : TypeId} {sz : Nat} {ρ : Nm} {rs : List Reg} {w w' : World}
theorem GrowL.start (hG : GrowG rows G i) {r : BRow} (hr : rows[i]? = some r) (hb : BkR B et sz rows ρ rs w) : GrowL rows G i r.v n0 :=
  ⟨fun _ h => .inl (mem_rowT.2 ⟨r, List.mem_of_getElem? hr, h⟩), fun a ha g h => hG.rows a ha i r (Nat.le_refl _) hr g h, fun _ _ hj hr' _ h => hb.ne hr hr' (fun e => hj e.symm) h⟩
theorem GrowL.next {l l' : Value} (h : GrowL rows G i l n0) (hG : RdR B et sz G ρ rs w) (hb : BkR B et sz rows ρ rs w) (hn0 : n0 ≤ w.heap.size) (hat : l'.ownBlock = l.ownBlock ∨ l'.ownBlock = some w.heap.size) : GrowL rows G i l' n0 := by
  rcases hat with e | e
  · exact ⟨fun g h1 => h.old g (by rw [← e]; exact h1), fun a ha g h1 => h.out a ha g (by rw [← e]; exact h1), fun j r hj hr g h1 => h.rows j r hj hr g (by rw [← e]; exact h1)⟩
  · refine ⟨fun g h1 => ?_, fun a ha g h1 h2 => ?_, fun j r hj hr g h1 h2 => ?_⟩
    · rw [e] at h1; injection h1 with h1; exact .inr (by omega)
    · rw [e] at h1; injection h1 with h1; have := own_lt (hG.own a ha).own h2; omega
    · rw [e] at h1; injection h1 with h1; have := own_lt (hb.at_ hr).own h2; omega
theorem GrowL.keeps {l : Value} (h : GrowL rows G i l n0) {q : BRow} (hq : rows[i]? = some q) {m : Nat} (hm : q.n ≤ m) : ∀ r ∈ rows, ∀ g, r.v.ownBlock = some g → l.ownBlock = some g → r.n ≤ m := by
  intro r hr g h1 h2
  obtain ⟨j, hj, e⟩ := List.getElem_of_mem hr
  have hrj : rows[j]? = some r := by rw [List.getElem?_eq_getElem hj, e]
  by_cases hji : j = i
  · subst hji
    rw [hq] at hrj
    injection hrj with hrj
    subst hrj
    exact hm
  · exact absurd h1 (h.rows j r hji hrj g h2)
theorem GrowG.next (hG : GrowG rows G i) {l : Value} (hl : GrowL rows G i l n0) {m : Nat} (hm : m ≤ 200000) : GrowG rows (G ++ [⟨l, m, ints (markI i 0 m)⟩]) (i + 1) := by
  refine ⟨by rw [List.length_append, hG.len]; rfl, fun j r hr => ?_, fun a ha j r hj hr g h1 => ?_⟩
  · rcases Nat.lt_or_ge j G.length with hj | hj
    · rw [List.getElem?_append_left hj] at hr
      exact hG.mkd j r hr
    · rw [List.getElem?_append_right hj] at hr
      have hl1 := hG.len
      cases hd : j - G.length with
      | zero =>
        rw [hd] at hr
        simp only [List.getElem?_cons_zero, Option.some.injEq] at hr
        subst hr
        obtain rfl : j = i := by omega
        exact ⟨rfl, hm⟩
      | succ k => rw [hd] at hr; simp at hr
  · rcases List.mem_append.1 ha with h2 | h2
    · exact hG.rows a h2 j r (by omega) hr g h1
    · rw [List.mem_singleton.1 h2]
      exact fun h3 => hl.rows j r (by omega) hr g h3 h1
end
def GrowI (rows : List BRow) (A : Option Addr) (n cp : Nat) (w : World) (e : Ending) (w' : World) : Prop :=
  ∃ Ao co G, e = .returned (.slice Ao n co) ∧ G.length = n ∧ Mkd G ∧ w'.ownsRow 0 31 1 (.slice Ao n co) n (G.map BRow.v) ∧ (∀ r ∈ G, w'.ownsRow 0 3 1 r.v r.n r.xs) ∧ (∀ r ∈ rows, w'.ownsRow 0 3 1 r.v r.n r.xs) ∧ w'.ownsRow 0 31 1 (.slice A n cp) n (rows.map BRow.v) ∧ Kept (fun y => ∃ r ∈ rows, r.v.ownBlock = some y) w w'
attribute [local irreducible] run goO leaveK someK nextK nextT nextOT nextOD loopBody loopRest loopK fillJ tmplOf tmplJ mergeT At AtO drawOk ordOf gateOf callC callO topOp topO idxOf appOf storeOf clearOf sliceOf calleeOf calleeO topQ idxQ newRowOf resL stepOp seek
set_option maxRecDepth 100000 in
set_option maxHeartbeats 4000000 in
theorem growI_any (x : Nat → Value) (b : Nat) (vW : Value) (rows : List BRow) (A : Option Addr) (n cp : Nat) (w : World) (h : Blk w b 56 (bkC x).toArray) (hx : x 2 = .slice A n cp) (hy : x 3 = vW) (hL : w.ownsRow 0 31 1 (.slice A n cp) n (rows.map BRow.v)) (hr : ∀ r ∈ rows, w.ownsRow 0 3 1 r.v r.n r.xs) (hm : Mkd rows) (hb : ∀ r ∈ rows, r.n ≤ 100000) (hap : rows.Pairwise fun a b => ∀ g, a.v.ownBlock = some g → b.v.ownBlock ≠ some g) (hnl : n = rows.length) (hn : n ≤ 250) :
    Calls Tryz.prog 99 #[.pointer (some ⟨b, 0, none⟩)] w (GrowI rows A n cp w) := by
  obtain ⟨ρ, e0, hR⟩ := blk_open h false (rowT rows) (by simp) (by kernel_rfl)
  rw [bkI_of hx hy] at hR
  have hL : Own ρ [⟨bkI x (.slice A n cp) vW, false⟩] w 0 31 1 (.slice A n cp) n (rows.map BRow.v) := ⟨hL, fun _ _ hw => wrS_allRo rfl hw⟩
  have hr := BkR.ofK (ρ := ρ) (rs := [⟨bkI x (.slice A n cp) vW, false⟩]) hr rfl hap
  have hbr : ∀ r ∈ rows, ∀ g, r.v.ownBlock = some g → g ≠ b := fun r hr' g h1 h2 => own_blk_ne (hr.own r hr').own h (by decide) (h2 ▸ h1)
  have hblt := h.lt
  have hgA : ∀ g, (Value.slice A n cp).ownBlock = some g → g < w.heap.size := fun g h1 => own_lt hL.own h1
  have hag := hR.ag_ 1 (by kernel_rfl)
  refine sim_enter Tryz.func99 ρ [.ptr 0 0] [⟨bkI x (.slice A n cp) vW, false⟩] (by kernel_rfl) (by simp only [denL, LV.den, Nm.at_, e0]) ?_
  refine sim_run 14 [] (hR.cast (by kernel_rfl)) (by kernel_rfl) trivial (fun ρ100 w100 hm100 hR100 => ?_)
  have hL := hL.moved (hm100.castL (by kernel_rfl))
  have hr := hr.moved (hm100.castL (by kernel_rfl))
  have hag := hag.moved (hm100.castL (by kernel_rfl))
  
  have e0 := (hag.at_ 0 (by omega)).trans e0
  refine sim_loop (ι := Nat × Value × List BRow) (T := rowT rows) (w0 := w) (0, .slice none 0 0, []) [0] (fun s => [(3, .v s.2.1), (4, LI s.1)]) (fun _ => [⟨bkI x (.slice A n cp) vW, false⟩]) (fun s w1 => s.1 ≤ n ∧ GrowG rows s.2.2 s.1 ∧ w.heap.size ≤ w1.heap.size ∧ Own ρ100 [⟨bkI x (.slice A n cp) vW, false⟩] w1 0 31 1 (.slice A n cp) n (rows.map BRow.v) ∧ Own ρ100 [⟨bkI x (.slice A n cp) vW, false⟩] w1 w.heap.size 31 1 s.2.1 s.1 (s.2.2.map BRow.v) ∧ BkR 0 3 1 rows ρ100 [⟨bkI x (.slice A n cp) vW, false⟩] w1 ∧ RdR 0 3 1 s.2.2 ρ100 [⟨bkI x (.slice A n cp) vW, false⟩] w1) (fun s => n - s.1) (by kernel_rfl) (by kernel_rfl) ((by assumption : Rel _ _ _ _ _).cast (by kernel_rfl)) ⟨Nat.zero_le _, GrowG.start _, ((by assumption : Rel _ _ _ _ _)).keeps.size, hL.castR (by kernel_rfl), ⟨World.ownsRow_nil _ _ _ _, fun g hg => by cases hg⟩, hr.castR (by kernel_rfl), ⟨fun r h => by simp at h⟩⟩ ?_
  iterate 8 (try clear hL)
  iterate 8 (try clear hr)
  iterate 8 (try clear hag)
  rintro ⟨i, vo, G⟩ d w2 hR2 ⟨hi, hGG, hsz, hL, hO, hr, hG⟩
  dsimp only at hi hGG hsz hL hO hr hG
  have hag := hR2.ag_ 1 (by kernel_rfl)
  by_cases hlt : i < n
  · obtain ⟨r, hri⟩ : ∃ r, rows[i]? = some r := ⟨_, List.getElem?_eq_getElem (by omega)⟩
    have e1 := (hm i r hri).1
    have e3 := hb r (List.mem_of_getElem? hri)
    have hgl := GrowL.start (n0 := w.heap.size) hGG hri hr
    obtain ⟨rv, rn, rxs⟩ := r
    dsimp only at e1 e3 hgl
    subst e1
    have ho1 := hr.at_ hri
    dsimp only at ho1
    obtain ⟨A1, c1, rfl⟩ := own_row' ho1.own
    obtain ⟨gL, rfl⟩ := own_spot hL.own (by omega)
    refine sim_seeK _ i 1 (by kernel_rfl) hri hL hlt hR2 (by kernel_rfl) (fun ρE hmE eE hRE => ?_)
    have hL := hL.moved hmE
    have hO := hO.moved hmE
    have hr := hr.moved hmE
    have hG := hG.moved hmE
    have ho1 := ho1.moved hmE
    have hag0 := hag.moved hmE
    have hag := hRE.ag_ 2 (by kernel_rfl)
    refine sim_run 11 [] (hRE.cast (by kernel_rfl)) (by kernel_rfl) trivial (fun ρ200 w200 hm200 hR200 => ?_)
    have hL := hL.moved (hm200.castL (by kernel_rfl))
    have hO := hO.moved (hm200.castL (by kernel_rfl))
    have hr := hr.moved (hm200.castL (by kernel_rfl))
    have hG := hG.moved (hm200.castL (by kernel_rfl))
    have ho1 := ho1.moved (hm200.castL (by kernel_rfl))
    have hag0 := hag0.moved (hm200.castL (by kernel_rfl))
    have hag := hag.moved (hm200.castL (by kernel_rfl))
    refine sim_know 13 (decide ((↑(i, vo, G).fst : Int) < (↑n : Int))) true (by kernel_rfl) (decide_eq_true (by omega)) ?_
    refine sim_run 11 [] (hR200.cast (by kernel_rfl)) (by kernel_rfl) trivial (fun ρ201 w201 hm201 hR201 => ?_)
    have hL := hL.moved (hm201.castL (by kernel_rfl))
    have hO := hO.moved (hm201.castL (by kernel_rfl))
    have hr := hr.moved (hm201.castL (by kernel_rfl))
    have hG := hG.moved (hm201.castL (by kernel_rfl))
    have ho1 := ho1.moved (hm201.castL (by kernel_rfl))
    have hag0 := hag0.moved (hm201.castL (by kernel_rfl))
    have hag := hag.moved (hm201.castL (by kernel_rfl))
    refine sim_place (.v (.slice (some ⟨gL, 0, none⟩) n cp)) n 1 i 1 0 (by kernel_rfl) (by omega) (by omega) rfl (by simp only [Nm.at_, hag.at_ 1 (by omega), eE, Nat.add_zero, Nat.zero_add, Int.toNat_natCast, Nat.mul_one]) ?_
    refine sim_run 9 [] (hR201.cast (by kernel_rfl)) (by kernel_rfl) trivial (fun ρ203 w203 hm203 hR203 => ?_)
    have hL := hL.moved (hm203.castL (by kernel_rfl))
    have hO := hO.moved (hm203.castL (by kernel_rfl))
    have hr := hr.moved (hm203.castL (by kernel_rfl))
    have hG := hG.moved (hm203.castL (by kernel_rfl))
    have ho1 := ho1.moved (hm203.castL (by kernel_rfl))
    have hag0 := hag0.moved (hm203.castL (by kernel_rfl))
    have hag := hag.moved (hm203.castL (by kernel_rfl))
    
    have e0 := (hag0.at_ 0 (by omega)).trans e0
    have eE := (hag.at_ 1 (by omega)).trans eE
    refine sim_loop (ι := Nat × Value) (T := rowT rows) (w0 := w) (0, .slice A1 rn c1) [0, 3, 4] (fun s => [(5, .v s.2), (6, LI s.1)]) (fun _ => [⟨bkI x (.slice (some ⟨gL, 0, none⟩) n cp) vW, false⟩, ⟨[.v (.slice A1 rn c1)], false⟩]) (fun s w1 => s.1 ≤ 12 ∧ GrowL rows G i s.2 w.heap.size ∧ w.heap.size ≤ w1.heap.size ∧ Own ρ203 [⟨bkI x (.slice (some ⟨gL, 0, none⟩) n cp) vW, false⟩, ⟨[.v (.slice A1 rn c1)], false⟩] w1 0 31 1 (.slice (some ⟨gL, 0, none⟩) n cp) n (rows.map BRow.v) ∧ Own ρ203 [⟨bkI x (.slice (some ⟨gL, 0, none⟩) n cp) vW, false⟩, ⟨[.v (.slice A1 rn c1)], false⟩] w1 w.heap.size 31 1 vo i (G.map BRow.v) ∧ BkR 0 3 1 rows ρ203 [⟨bkI x (.slice (some ⟨gL, 0, none⟩) n cp) vW, false⟩, ⟨[.v (.slice A1 rn c1)], false⟩] w1 ∧ RdR 0 3 1 G ρ203 [⟨bkI x (.slice (some ⟨gL, 0, none⟩) n cp) vW, false⟩, ⟨[.v (.slice A1 rn c1)], false⟩] w1 ∧ Own ρ203 [⟨bkI x (.slice (some ⟨gL, 0, none⟩) n cp) vW, false⟩, ⟨[.v (.slice A1 rn c1)], false⟩] w1 0 3 1 s.2 (rn + s.1) (ints (markI i 0 (rn + s.1)))) (fun s => 12 - s.1) (by kernel_rfl) (by kernel_rfl) ((by assumption : Rel _ _ _ _ _).cast (by kernel_rfl)) ⟨Nat.zero_le _, hgl, ((by assumption : Rel _ _ _ _ _)).keeps.size, hL.castR (by kernel_rfl), hO.castR (by kernel_rfl), hr.castR (by kernel_rfl), hG.castR (by kernel_rfl), ho1.castR (by kernel_rfl)⟩ ?_
    iterate 8 (try clear hL)
    iterate 8 (try clear hO)
    iterate 8 (try clear hr)
    iterate 8 (try clear hG)
    iterate 8 (try clear ho1)
    iterate 8 (try clear hag)
    iterate 8 (try clear hsz)
    clear hgl
    rintro ⟨m, lv⟩ d3 w3 hR3 ⟨hm12, hgl, hsz, hL, hO, hr, hG, ho⟩
    dsimp only at hm12 hgl hsz hL hO hr hG ho
    have hag := hR3.ag_ 2 (by kernel_rfl)
    obtain ⟨Al, cl, rfl⟩ := own_row' ho.own
    by_cases hl12 : m < 12
    · refine sim_run 6 [] (hR3.cast (by kernel_rfl)) (by kernel_rfl) trivial (fun ρ300 w300 hm300 hR300 => ?_)
      have hag0 := hag0.moved (hm300.castL (by kernel_rfl))
      have hL := hL.moved (hm300.castL (by kernel_rfl))
      have hO := hO.moved (hm300.castL (by kernel_rfl))
      have hr := hr.moved (hm300.castL (by kernel_rfl))
      have hG := hG.moved (hm300.castL (by kernel_rfl))
      have hag := hag.moved (hm300.castL (by kernel_rfl))
      have ho := ho.moved (hm300.castL (by kernel_rfl))
      refine sim_know 24 (decide ((↑(m, Value.slice Al (rn + m) cl).fst : Int) < 12)) true (by kernel_rfl) (decide_eq_true (by omega)) ?_
      refine sim_run 9 [] (hR300.cast (by kernel_rfl)) (by kernel_rfl) trivial (fun ρ301 w301 hm301 hR301 => ?_)
      have hag0 := hag0.moved (hm301.castL (by kernel_rfl))
      have hL := hL.moved (hm301.castL (by kernel_rfl))
      have hO := hO.moved (hm301.castL (by kernel_rfl))
      have hr := hr.moved (hm301.castL (by kernel_rfl))
      have hG := hG.moved (hm301.castL (by kernel_rfl))
      have hag := hag.moved (hm301.castL (by kernel_rfl))
      have ho := ho.moved (hm301.castL (by kernel_rfl))
      refine sim_call 178 [LI ((↑(i, vo, G).fst : Int)), LI ((↑(rn + m) : Int)), LI 1] (by kernel_rfl) ?_
      refine Calls.mono (markI_any (i) ((rn + m)) (1) (by omega) (by omega) _) ?_
      rintro e302 w302 ⟨v302, rfl, hmk, hb302⟩
      obtain ⟨Am, cm, rfl⟩ := own_row' hmk
      have hmk := Own.start hR301 hmk
      have hL := hL.below hb302
      have hO := hO.below hb302
      have hr := hr.below hb302
      have hG := hG.below hb302
      have ho := ho.below hb302
      have hR302 := hR301.below hb302
      refine Back.of (.v (Value.slice Am 1 cm)) hR302 rfl ?_
      
      refine sim_appendKO 31 (.slice Al (rn + m) cl) Am 1 cm (by kernel_rfl) hR302 tyI ho hmk.reads (oneI _) (by unfold maxLen; omega) (by omega) (Nat.zero_le _) (fun g hg => hgl.old g hg) [0, 1] (by kernel_rfl) (fun k0 hk0 g hg => ?_) (fun l2 w4 ho2 hgw hat hkeep hR4 => ?_)
      · simp only [List.mem_cons, List.not_mem_nil, or_false] at hk0
        rcases hk0 with rfl | rfl
        · rw [hag.at_ 0 (by omega), e0]
          exact fun e => (hgl.old g hg).elim (fun h1 => by obtain ⟨q, h2, h3⟩ := mem_rowT.1 h1; exact hbr q h2 g h3 e.symm) (fun h1 => by have e : b = g := e; omega)
        · rw [hag.at_ 1 (by omega), eE]
          exact fun e => own_ne hL.own ho.own (by decide) gL rfl (by rw [show gL = g from e]; exact hg)
      have hgl2 := hgl.next hG hr ((by assumption : Rel _ _ _ _ _)).keeps.size hat
      have hr := hr.keep ho.own hkeep hgw (by omega) (hgl.keeps hri (Nat.le_add_right _ _))
      have hG := hG.grown hgw (fun a ha g h1 h2 => hgl.out a ha g h2 h1)
      have hL := hL.grown hgw (own_ne hL.own ho.own (by decide))
      have hO := hO.grown hgw (own_ne hO.own ho.own (by decide))
      have eM : ints (markI i 0 (rn + m)) ++ ints (markI i (rn + m) 1) = ints (markI i 0 (rn + (m + 1))) := by
        rw [← ints_app]
        have := markI_add i 0 (rn + m) 1
        rw [Nat.zero_add] at this
        rw [this, Nat.add_assoc]
      rw [eM] at ho2
      clear ho hkeep hmk hgl
      have ho := ho2
      have hgl := hgl2
      clear ho2 hgl2
      refine sim_run 8 [⟨8, 1, LI (IntKind.i64.wrap ((↑(m, Value.slice Al (rn + m) cl).fst : Int) + 1)), LI ((↑(m, Value.slice Al (rn + m) cl).fst : Int) + 1)⟩] (hR4.cast (by kernel_rfl)) (by kernel_rfl) ⟨eqi (IntWalk.i64_in _ (by omega)), trivial⟩ (fun ρ400 w400 hm400 hR400 => ?_)
      have hag0 := hag0.moved (hm400.castL (by kernel_rfl))
      have hag := hag.moved (hm400.castL (by kernel_rfl))
      have hr := hr.moved (hm400.castL (by kernel_rfl))
      have hG := hG.moved (hm400.castL (by kernel_rfl))
      have hL := hL.moved (hm400.castL (by kernel_rfl))
      have hO := hO.moved (hm400.castL (by kernel_rfl))
      have ho := ho.moved (hm400.castL (by kernel_rfl))
      
      exact sim_again (m + 1, l2) (by kernel_rfl) (by show 12 - (m + 1) < 12 - m; omega) (by kernel_rfl) (by kernel_rfl) (by kernel_rfl) hag.ag (Rel.cast (by assumption) (by kernel_rfl)) (by kernel_rfl) (by kernel_rfl) ⟨hl12, hgl, ((by assumption : Rel _ _ _ _ _)).keeps.size, hL.cut hag rfl (by kernel_rfl), hO.cut hag rfl (by kernel_rfl), hr.cut hag rfl (by kernel_rfl), hG.cut hag rfl (by kernel_rfl), ho.cut hag rfl (by kernel_rfl)⟩
    · obtain rfl : m = 12 := by omega
      refine sim_run 7 [] (hR3.cast (by kernel_rfl)) (by kernel_rfl) trivial (fun ρ500 w500 hm500 hR500 => ?_)
      have hag0 := hag0.moved (hm500.castL (by kernel_rfl))
      have hL := hL.moved (hm500.castL (by kernel_rfl))
      have hO := hO.moved (hm500.castL (by kernel_rfl))
      have hr := hr.moved (hm500.castL (by kernel_rfl))
      have hG := hG.moved (hm500.castL (by kernel_rfl))
      have hag := hag.moved (hm500.castL (by kernel_rfl))
      have ho := ho.moved (hm500.castL (by kernel_rfl))
      refine sim_leave (by kernel_rfl) ?_
      refine sim_run 6 [] (hR500.cast (by kernel_rfl)) (by kernel_rfl) trivial (fun ρ501 w501 hm501 hR501 => ?_)
      have hag0 := hag0.moved (hm501.castL (by kernel_rfl))
      have hL := hL.moved (hm501.castL (by kernel_rfl))
      have hO := hO.moved (hm501.castL (by kernel_rfl))
      have hr := hr.moved (hm501.castL (by kernel_rfl))
      have hG := hG.moved (hm501.castL (by kernel_rfl))
      have hag := hag.moved (hm501.castL (by kernel_rfl))
      have ho := ho.moved (hm501.castL (by kernel_rfl))
      refine sim_call 178 [LI ((↑(i, vo, G).fst : Int)), LI ((↑(rn + 12) : Int)), LI 60] (by kernel_rfl) ?_
      refine Calls.mono (markI_any (i) ((rn + 12)) (60) (by omega) (by omega) _) ?_
      rintro e502 w502 ⟨v502, rfl, hmk, hb502⟩
      obtain ⟨Am, cm, rfl⟩ := own_row' hmk
      have hmk := Own.start hR501 hmk
      have hL := hL.below hb502
      have hO := hO.below hb502
      have hr := hr.below hb502
      have hG := hG.below hb502
      have ho := ho.below hb502
      have hR502 := hR501.below hb502
      refine Back.of (.v (Value.slice Am 60 cm)) hR502 rfl ?_
      
      refine sim_appendKO 31 (.slice Al (rn + 12) cl) Am 60 cm (by kernel_rfl) hR502 tyI ho hmk.reads (oneI _) (by unfold maxLen; omega) (by omega) (Nat.zero_le _) (fun g hg => hgl.old g hg) [0, 1] (by kernel_rfl) (fun k0 hk0 g hg => ?_) (fun l2 w4 ho2 hgw hat hkeep hR4 => ?_)
      · simp only [List.mem_cons, List.not_mem_nil, or_false] at hk0
        rcases hk0 with rfl | rfl
        · rw [hag.at_ 0 (by omega), e0]
          exact fun e => (hgl.old g hg).elim (fun h1 => by obtain ⟨q, h2, h3⟩ := mem_rowT.1 h1; exact hbr q h2 g h3 e.symm) (fun h1 => by have e : b = g := e; omega)
        · rw [hag.at_ 1 (by omega), eE]
          exact fun e => own_ne hL.own ho.own (by decide) gL rfl (by rw [show gL = g from e]; exact hg)
      have hgl2 := hgl.next hG hr ((by assumption : Rel _ _ _ _ _)).keeps.size hat
      have hr := hr.keep ho.own hkeep hgw (by omega) (hgl.keeps hri (Nat.le_add_right _ _))
      have hG := hG.grown hgw (fun a ha g h1 h2 => hgl.out a ha g h2 h1)
      have hL := hL.grown hgw (own_ne hL.own ho.own (by decide))
      have hO := hO.grown hgw (own_ne hO.own ho.own (by decide))
      have eM : ints (markI i 0 (rn + 12)) ++ ints (markI i (rn + 12) 60) = ints (markI i 0 (rn + (12 + 60))) := by
        rw [← ints_app]
        have := markI_add i 0 (rn + 12) 60
        rw [Nat.zero_add] at this
        rw [this, Nat.add_assoc]
      rw [eM] at ho2
      clear ho hkeep hmk hgl
      have ho := ho2
      have hgl := hgl2
      clear ho2 hgl2
      obtain ⟨A2, c2, rfl⟩ := own_row' ho.own
      refine sim_run 1 [] (hR4.cast (by kernel_rfl)) (by kernel_rfl) trivial (fun ρ600 w600 hm600 hR600 => ?_)
      have hag0 := hag0.moved (hm600.castL (by kernel_rfl))
      have hag := hag.moved (hm600.castL (by kernel_rfl))
      have hr := hr.moved (hm600.castL (by kernel_rfl))
      have hG := hG.moved (hm600.castL (by kernel_rfl))
      have hL := hL.moved (hm600.castL (by kernel_rfl))
      have hO := hO.moved (hm600.castL (by kernel_rfl))
      have ho := ho.moved (hm600.castL (by kernel_rfl))
      
      refine sim_appendP 39 vo (.slc 2 0 1 1) (by kernel_rfl) hR600 tyII hO 2 1 1 rfl [.v (.slice A2 (rn + 12 + 60) c2)] (by kernel_rfl) rfl (by kernel_rfl) (by unfold maxLen; omega) (by omega) ((by assumption : Rel _ _ _ _ _)).keeps.size (fun g' hg' => .inr (own_ge hO.own hg')) [0, 1] (by kernel_rfl) (fun k0 hk0 g hg => ?_) (fun vo2 w6 hO2 hgw hat hR6 => ?_)
      · have h1 := own_ge hO.own hg
        simp only [List.mem_cons, List.not_mem_nil, or_false] at hk0
        rcases hk0 with rfl | rfl
        · rw [hag.at_ 0 (by omega), e0]
          exact fun e => by have e : b = g := e; omega
        · rw [hag.at_ 1 (by omega), eE]
          exact fun e => by have e : gL = g := e; have := hgA gL rfl; omega
      have hL := hL.grown hgw (fun g h1 h2 => by have := hgA g h1; have := own_ge hO.own h2; omega)
      have hr := hr.map (ρ' := ρ600) (rs' := _) (fun r _ h1 => h1.grown hgw (own_ne h1.own hO.own (by decide)))
      have hG := hG.map (ρ' := ρ600) (rs' := _) (fun r _ h1 => h1.grown hgw (own_ne h1.own hO.own (by decide)))
      have ho := ho.grown hgw (own_ne ho.own hO.own (by decide))
      clear hO hat
      have hO := hO2
      clear hO2
      refine sim_run 8 [⟨4, 1, LI (IntKind.i64.wrap ((↑(i, vo, G).fst : Int) + 1)), LI ((↑(i, vo, G).fst : Int) + 1)⟩] (hR6.cast (by kernel_rfl)) (by kernel_rfl) ⟨eqi (IntWalk.i64_in _ (by omega)), trivial⟩ (fun ρ700 w700 hm700 hR700 => ?_)
      have hag0 := hag0.moved (hm700.castL (by kernel_rfl))
      have hag := hag.moved (hm700.castL (by kernel_rfl))
      have hL := hL.moved (hm700.castL (by kernel_rfl))
      have hr := hr.moved (hm700.castL (by kernel_rfl))
      have hG := hG.moved (hm700.castL (by kernel_rfl))
      have ho := ho.moved (hm700.castL (by kernel_rfl))
      have hO := hO.moved (hm700.castL (by kernel_rfl))
      
      have hagO := hag0
      have hGG2 := hGG.next hgl (m := rn + 12 + 60) (by omega)
      exact sim_again (i + 1, vo2, G ++ [⟨.slice A2 (rn + 12 + 60) c2, rn + 12 + 60, ints (markI i 0 (rn + 12 + 60))⟩]) (by kernel_rfl) (by show n - (i + 1) < n - i; omega) (by kernel_rfl) (by kernel_rfl) (by kernel_rfl) hagO.ag (Rel.cast (by assumption) (by kernel_rfl)) (by kernel_rfl) (by kernel_rfl) ⟨hlt, hGG2, ((by assumption : Rel _ _ _ _ _)).keeps.size, hL.cut hagO rfl (by kernel_rfl), (by rw [List.map_append]; exact hO.cut hagO rfl (by kernel_rfl)), hr.cut hagO rfl (by kernel_rfl), ⟨fun r hr' => (List.mem_append.1 hr').elim (fun h1 => (hG.cut hagO rfl (by kernel_rfl)).own r h1) (fun h1 => by rw [List.mem_singleton.1 h1]; exact ho.cut hagO rfl (by kernel_rfl))⟩⟩
  · obtain ⟨Ao, co, rfl⟩ := own_row' hO.own
    refine sim_run 11 [] (hR2.cast (by kernel_rfl)) (by kernel_rfl) trivial (fun ρ900 w900 hm900 hR900 => ?_)
    have hL := hL.moved (hm900.castL (by kernel_rfl))
    have hr := hr.moved (hm900.castL (by kernel_rfl))
    have hG := hG.moved (hm900.castL (by kernel_rfl))
    have hag := hag.moved (hm900.castL (by kernel_rfl))
    have hO := hO.moved (hm900.castL (by kernel_rfl))
    refine sim_know 13 (decide ((↑(i, Value.slice Ao i co, G).fst : Int) < (↑n : Int))) false (by kernel_rfl) (decide_eq_false (by omega)) ?_
    refine sim_run 1 [] (hR900.cast (by kernel_rfl)) (by kernel_rfl) trivial (fun ρ901 w901 hm901 hR901 => ?_)
    have hL := hL.moved (hm901.castL (by kernel_rfl))
    have hr := hr.moved (hm901.castL (by kernel_rfl))
    have hG := hG.moved (hm901.castL (by kernel_rfl))
    have hag := hag.moved (hm901.castL (by kernel_rfl))
    have hO := hO.moved (hm901.castL (by kernel_rfl))
    refine sim_leave (by kernel_rfl) ?_
    refine sim_run 5 [] (hR901.cast (by kernel_rfl)) (by kernel_rfl) trivial (fun ρ902 w902 hm902 hR902 => ?_)
    have hL := hL.moved (hm902.castL (by kernel_rfl))
    have hr := hr.moved (hm902.castL (by kernel_rfl))
    have hG := hG.moved (hm902.castL (by kernel_rfl))
    have hag := hag.moved (hm902.castL (by kernel_rfl))
    have hO := hO.moved (hm902.castL (by kernel_rfl))
    refine sim_ret (.v (Value.slice Ao i co)) hR902 (by kernel_rfl) (by kernel_rfl) ?_
    
    obtain rfl : i = n := by omega
    exact ⟨Ao, co, G, rfl, hGG.len, hGG.mkd, own_base0 hO.own (Nat.zero_le _), fun r hr' => (hG.own r hr').own, fun r hr' => (hr.own r hr').own, hL.own, ((by assumption : Rel _ _ _ _ _)).keeps.kept.mono fun y hy => .inl (mem_rowT.1 hy)⟩
end Go.Proofs.YtedfbdeklepekaaGreat
